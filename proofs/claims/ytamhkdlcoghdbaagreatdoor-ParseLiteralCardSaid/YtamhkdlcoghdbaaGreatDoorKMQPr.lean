/- Put together (wip/tools/pack.py): QPr, QLf, QDecode, QLit. -/
import Derived.Test.YtamhkdlcoghdbaaGreatDoorKQPq
/- Out of Pr (wip/tools/prune2.py): the declarations alone that the texts of the trees name. -/
namespace Go.Proofs.YtamhkdlcoghdbaaGreatDoor.PCls
open Go.RowKit Go.Shelf Go.Proofs.YtamhkdlcoghdbaaGreatDoorW.PrintWords Go.Proofs.YtamhkdlcoghdbaaGreatDoorW.PrintLast Go.Proofs.YtamhkdlcoghdbaaGreatDoorW.PrintMore
set_option linter.unusedVariables false
set_option linter.unusedSimpArgs false
/-- how large an open group is -/
def GS.sz (g : GS) : Nat := PT.nszL g.done + PT.nszL g.cur
def szs : List GS → Nat
 | [] => 0
 | g :: gs => g.sz + szs gs
/-- bounds, behind n tokens -/
structure MB (n : Nat) (m : MS) : Prop where
 cur : ∀ g, g ∈ m.top :: m.below → g.cur.length ≤ n ∧ g.done.length ≤ n ∧ 0 ≤ g.n ∧ g.n ≤ 30
 below : (m.below.length : Int) ≤ m.many
 many : m.many ≤ 30
 ended : m.ended.length ≤ n
 sz : szs (m.top :: m.below) ≤ 3 * n
theorem MB.start : MB 0 MS.start := ⟨fun g hg => by simp [MS.start] at hg; subst hg; simp, by simp [MS.start], by simp [MS.start], by simp [MS.start], by simp [MS.start, szs, GS.sz, PT.nszL]⟩
theorem MB.put {n : Nat} {m : MS} (h : MB n m) (p : PT) (hp : PT.nsz p ≤ 3) : MB (n + 1) (m.put p) := by
 refine ⟨fun g hg => ?_, h.below, h.many, Nat.le_succ_of_le h.ended, ?_⟩
 ·rcases List.mem_cons.1 hg with rfl | hg
  ·have h1 := h.cur m.top List.mem_cons_self
   refine ⟨?_, Nat.le_succ_of_le h1.2.1, h1.2.2⟩
   simp only [MS.put, GS.put, List.length_append, List.length_singleton]; omega
  ·have h1 := h.cur g (List.mem_cons_of_mem _ hg)
   exact ⟨Nat.le_succ_of_le h1.1, Nat.le_succ_of_le h1.2.1, h1.2.2⟩
 ·have h1 := h.sz
  simp only [szs, GS.sz, MS.put, GS.put, PT.nszL_append, PT.nszL] at h1 ⊢
  omega
theorem nszL_last (l : List PT) (p : PT) (h : l.getLast? = some p) : PT.nszL l = PT.nszL l.dropLast + PT.nsz p := by
 obtain ⟨a, rfl⟩ := List.getLast?_eq_some_iff.1 h
 rw [List.dropLast_concat, PT.nszL_append]
 simp only [PT.nszL]; omega
theorem MB.step {n : Nat} {m m' : MS} {t : Tok} (h : MB n m) (hm : m.tok t = .ok m') : MB (n + 1) m' := by
 unfold MS.tok at hm
 split at hm
 ·split at hm
  ·cases hm
  ·cases hm
   have h1 := h.below
   have h2 := h.many
   refine ⟨fun g hg => ?_, by simp only [List.length_cons]; omega, by show m.many + 1 ≤ 30; omega, Nat.le_succ_of_le h.ended, ?_⟩
   ·rcases List.mem_cons.1 hg with rfl | hg
    ·simp only [List.length_nil]; omega
    ·have h3 := h.cur g hg
     exact ⟨Nat.le_succ_of_le h3.1, Nat.le_succ_of_le h3.2.1, h3.2.2⟩
   ·have h3 := h.sz
    simp only [szs, GS.sz, PT.nszL] at h3 ⊢
    omega
 split at hm
 ·split at hm
  ·cases hm
  ·rename_i g b hb
   cases hm
   have h1 := h.below
   rw [hb] at h1
   refine ⟨fun g' hg => ?_, by simp only [List.length_cons] at h1 ⊢; omega, h.many, by have := h.ended; simp only [List.length_cons]; omega, ?_⟩
   ·rcases List.mem_cons.1 hg with rfl | hg
    ·have h3 := h.cur g (by rw [hb]; simp)
     refine ⟨?_, Nat.le_succ_of_le h3.2.1, h3.2.2⟩
     simp only [GS.put, List.length_append, List.length_singleton]; omega
    ·have h3 := h.cur g' (by rw [hb]; simp [hg])
     exact ⟨Nat.le_succ_of_le h3.1, Nat.le_succ_of_le h3.2.1, h3.2.2⟩
   ·have h3 := h.sz
    rw [hb] at h3
    simp only [szs, GS.sz, GS.put, GS.whole, GS.all, PT.nszL_append, PT.nszL, PT.nsz] at h3 ⊢
    omega
 split at hm
 ·cases hm
  refine ⟨fun g hg => ?_, h.below, h.many, Nat.le_succ_of_le h.ended, ?_⟩
  ·rcases List.mem_cons.1 hg with rfl | hg
   ·have h3 := h.cur m.top List.mem_cons_self
    refine ⟨by simp, ?_, h3.2.2⟩
    simp only [GS.all, List.length_append, List.length_singleton]; omega
   ·have h3 := h.cur g (List.mem_cons_of_mem _ hg)
    exact ⟨Nat.le_succ_of_le h3.1, Nat.le_succ_of_le h3.2.1, h3.2.2⟩
  ·have h3 := h.sz
   simp only [szs, GS.sz, GS.all, PT.nszL_append, PT.nszL, PT.nsz] at h3 ⊢
   omega
 split at hm
 ·split at hm
  ·cases hm
  ·rename_i p hp
   cases hm
   have hl := nszL_last _ _ hp
   have hne : m.top.cur ≠ [] := fun e => by rw [e] at hp; simp at hp
   refine ⟨fun g hg => ?_, h.below, h.many, Nat.le_succ_of_le h.ended, ?_⟩
   ·rcases List.mem_cons.1 hg with rfl | hg
    ·have h3 := h.cur m.top List.mem_cons_self
     refine ⟨?_, Nat.le_succ_of_le h3.2.1, h3.2.2⟩
     simp only [MS.rep, List.length_append, List.length_dropLast, List.length_singleton]; omega
    ·have h3 := h.cur g (List.mem_cons_of_mem _ hg)
     exact ⟨Nat.le_succ_of_le h3.1, Nat.le_succ_of_le h3.2.1, h3.2.2⟩
   ·have h3 := h.sz
    simp only [szs, GS.sz, MS.rep, PT.nszL_append, PT.nszL, PT.nsz] at h3 ⊢
    omega
 split at hm
 ·split at hm
  ·cases hm; exact h.put _ (by simp [leafN, PT.nsz, NT.nodes, NT.nodesL])
  ·cases hm
 split at hm
 ·cases hm; exact h.put _ (by simp [leafN, PT.nsz, NT.nodes, NT.nodesL])
 split at hm
 ·cases hm; exact h.put _ (by simp [leafN, PT.nsz, NT.nodes, NT.nodesL])
 ·cases hm; exact h.put _ (by simp [leafN, PT.nsz, NT.nodes, NT.nodesL])
/-- a sign of how often stands behind something -/
def LastOk (q : Int) (m : MS) : Prop := (q = 1 ∨ q = 2 ∨ q = 4 ∨ q = 6) → m.top.cur ≠ []
theorem LastOk.step {m m' : MS} {t : Tok} (hk : 1 ≤ t.kind ∧ t.kind ≤ 8) (hm : m.tok t = .ok m') : LastOk t.kind m' := by
 intro hq
 unfold MS.tok at hm
 rw [if_neg (by omega)] at hm
 split at hm
 ·split at hm
  ·cases hm
  ·cases hm; simp [GS.put]
 rw [if_neg (by omega)] at hm
 split at hm
 ·split at hm
  ·cases hm
  ·cases hm; simp [MS.rep]
 split at hm
 ·split at hm
  ·cases hm; simp [MS.put, GS.put]
  ·cases hm
 rw [if_neg (by omega), if_neg (by omega)] at hm
 cases hm; simp [MS.put, GS.put]
theorem set_leaf {W : World} {b0 : Nat} {rv : Value} {r : List S64} (h : W.ownsRow b0 39 2 rv r.length (rowOf r)) (hin : inR r = true) (hl : r.length < 2000000) (P : Nat → Prop) (hP : ∀ k, rv.ownBlock = some k → P k) : ∃ A c, rv = .slice A r.length c ∧ PIn W P (leafN 2 0 r) (.iface 159 (.agg #[.int .i64 2, .int .i64 0, .int .i64 0, .int .i64 0, rv, .slice none 0 0])) := by
 obtain ⟨A, c, rfl, hc, hC⟩ := Kd.R_reads (R_of_own (ok := fun _ => True) h (fun _ _ => trivial))
 refine ⟨A, c, rfl, .leaf _ _ (NIn.mk 2 0 0 0 r [] A none c 0 (fun _ => []) hC (fun ad e hr => ?_) hc (by omega) hin (by simp) (by simp) (fun j t h => by simp at h) (fun j hj => by simp at hj))⟩
 rcases h.2 with ⟨e1, e0⟩ | ⟨g, cap, cur, e1, _⟩
 ·exact absurd (List.length_eq_zero_iff.1 e0) hr
 ·simp only [Value.slice.injEq] at e1
  obtain ⟨rfl, _, _⟩ := e1
  cases e
  exact hP g rfl
set_option maxHeartbeats 4000000 in
/-- a token, any -/
theorem token_calls (W : World) (base : Nat) (τ : Nat → Nat) (B : Nat) (m : MS) (a : Nat) (al : List Nat) (O : Value) (mb : Nat) (hat : MkAt W base τ B m (a :: al) O mb) (hbase : base ≤ W.heap.size) (n : Nat) (hB : MB n m) (hn : n ≤ 5000) (q : Int) (hl : LastOk q m) (t : Tok)
  (hk : 1 ≤ t.kind ∧ t.kind ≤ 8) (hq : t.kind = 2 → q ≠ 0 ∧ q ≠ 3 ∧ q ≠ 5 ∧ q ≠ 7 ∧ q ≠ 8) (hqr : 0 ≤ q ∧ q ≤ 8) (hfin : t.kind = 4 → 0 < t.fin ∧ t.fin ≤ 1000000) (htn : t.kind = 6 → -9223372036854775808 ≤ t.n ∧ t.n ≤ 9223372036854775807) (rv : Value) (hr : W.ownsRow base 39 2 rv t.r.length (rowOf t.r)) (hrin : inR t.r = true) (hrl : t.kind = 1 → t.r.length < 2000000) (hrz : ∀ k, rv.ownBlock = some k → τ k = 0) :
  Calls Tryz.prog 50 #[.pointer (some ⟨B, 0, none⟩), .agg (tokV t rv).toArray] W fun e w' => TokPost W w' e base τ B mb (m.tok t) := by
 have hc := hB.cur m.top List.mem_cons_self
 have h1 := hB.below
 have h2 := hB.many
 have h3 := hB.ended
 have hp : TokPre W base τ B m a al O mb := ⟨hat, hbase, by omega, by omega, by omega, by omega, by omega⟩
 have hset := fun h => set_leaf hr hrin (hrl h) (Fz W base τ) (fun k hk => ⟨(ownLt hr k hk).1, (ownLt hr k hk).2, hrz k hk⟩)
 obtain ⟨A, c, rfl, _⟩ := own_form hr
 obtain ⟨kind, sat, fin, nn, lo, hi, r⟩ := t
 simp only [tokV] at *
 have hkk : kind = 1 ∨ kind = 2 ∨ kind = 3 ∨ kind = 4 ∨ kind = 5 ∨ kind = 6 ∨ kind = 7 ∨ kind = 8 := by omega
 rcases hkk with rfl | rfl | rfl | rfl | rfl | rfl | rfl | rfl
 ·obtain ⟨A', c', e, hset⟩ := hset rfl
  exact tok_set W base τ B m a al O mb hp sat fin nn lo hi A r.length c r hset
 ·have h4 := hq rfl
  have hne := hl (by omega)
  obtain ⟨p, hp'⟩ : ∃ p, m.top.cur.getLast? = some p := ⟨_, List.getLast?_eq_some_getLast hne⟩
  rw [show m.tok ⟨2, sat, fin, nn, lo, hi, r⟩ = .ok (m.rep p lo hi) by simp [MS.tok, hp']]
  exact tok_rep W base τ B m a al O mb hp sat fin nn lo hi A r.length c p hp'
 ·exact tok_open W base τ B m a al O mb hp sat fin nn lo hi A r.length c _ (by simp [MS.tok])
 ·cases hb : m.below with
  | nil =>
   rw [show m.tok ⟨4, sat, fin, nn, lo, hi, r⟩ = .error 40 by simp [MS.tok, hb]]
   exact tok_close0 W base τ B m a al O mb hp sat fin nn lo hi A r.length c hb
  | cons g b =>
   have h5 := hB.cur g (by rw [hb]; simp)
   rw [show m.tok ⟨4, sat, fin, nn, lo, hi, r⟩ = .ok ⟨g.put m.top.whole, b, m.many, m.top.n :: m.ended⟩ by simp [MS.tok, hb]]
   exact tok_close1 W base τ B m a al O mb hp sat fin nn lo hi A r.length c g b hb (hfin rfl) (by omega) (by omega)
 ·rw [show m.tok ⟨5, sat, fin, nn, lo, hi, r⟩ = .ok { m with top := ⟨m.top.n, m.top.pl, m.top.all, []⟩ } by simp [MS.tok]]
  exact tok_alt W base τ B m a al O mb hp sat fin nn lo hi A r.length c
 ·exact tok_back W base τ B m a al O mb hp sat fin nn lo hi A r.length c (htn rfl) _ (by simp [MS.tok])
 ·rw [show m.tok ⟨7, sat, fin, nn, lo, hi, r⟩ = .ok (m.put (leafN 3 0 [])) by simp [MS.tok]]
  exact tok_begin W base τ B m a al O mb hp sat fin nn lo hi A r.length c
 ·rw [show m.tok ⟨8, sat, fin, nn, lo, hi, r⟩ = .ok (m.put (leafN 4 0 [])) by simp [MS.tok]]
  exact tok_end W base τ B m a al O mb hp sat fin nn lo hi A r.length c
end Go.Proofs.YtamhkdlcoghdbaaGreatDoor.PCls
/- Out of Lf (wip/tools/prune2.py): the declarations alone that the texts of the trees name. -/
namespace Go.Proofs.YtamhkdlcoghdbaaGreatDoor.PCls
set_option linter.unusedVariables false
set_option linter.unusedSimpArgs false
def spec (b : UInt8) : Bool := b == 92 || b == 91 || b == 46 || b == 42 || b == 94 || b == 36
theorem byt_drop {s : ByteArray} {p : Nat} {b : UInt8} {l : List UInt8} (h : s.data.toList.drop p = b :: l) : p < s.size ∧ Lx.byt s p = b.toNat ∧ s.data.toList.drop (p + 1) = l := by
 have h0 : s.data.toList.length = s.size := by simp
 have hp : p < s.data.toList.length := by
  rcases Nat.lt_or_ge p s.data.toList.length with h1 | h1
  ·exact h1
  ·rw [List.drop_eq_nil_of_le h1] at h; cases h
 rw [List.drop_eq_getElem_cons hp] at h
 obtain ⟨h1, h2⟩ := List.cons.inj h
 refine ⟨by omega, ?_, h2⟩
 unfold Lx.byt
 rw [List.getD_eq_getElem?_getD, List.getElem?_eq_getElem hp, Option.getD_some, h1]
theorem unit_ascii (s : ByteArray) (chars : Bool) (p : Nat) (h : p < s.size) (hb : Lx.byt s p < 128) : Lx.unit s chars p = ((Lx.byt s p : Int), 1) := by
 have h4 := byt_at s p h
 have hd : Utf8.decode s p = (Lx.byt s p, 1) := by
  rw [Lib.decode_at]
  have hg : (s.get! p).toNat = Lx.byt s p := by rw [h4]; simp [ByteArray.get!, h]; rfl
  unfold Lib.decodeN
  rw [hg, if_pos hb]
 unfold Lx.unit
 rw [if_pos h]
 cases chars with
 | false => rfl
 | true =>
  have hok : okAt s p = true := by
   unfold okAt
   rw [hd]
   simp
   omega
  rw [if_pos rfl, if_pos hok, hd]
/-- the tokens of a text -/
def TokOf (fold : Bool) (b : UInt8) (t : Tok) : Prop := t.kind = 1 ∧ t.r = Lx.oneR clC fold b.toNat
def ToksOf (fold : Bool) : List UInt8 → List Tok → Prop
 | [], [] => True
 | b :: l, t :: ts => TokOf fold b t ∧ ToksOf fold l ts
 | _, _ => False
end Go.Proofs.YtamhkdlcoghdbaaGreatDoor.PCls
/- Out of Decode (wip/tools/prune2.py): the declarations alone that the texts of the trees name. -/
namespace Go.Proofs.YtamhkdlcoghdbaaGreatDoor.PCls
open Go.RowKit Go.Shelf Go.Proofs.YtamhkdlcoghdbaaGreatDoorW.PrintWords Go.Proofs.YtamhkdlcoghdbaaGreatDoorW.PrintLast Go.Proofs.YtamhkdlcoghdbaaGreatDoorW.PrintMore
set_option linter.unusedVariables false
set_option linter.unusedSimpArgs false
theorem info3d : (Tryz.prog.info? 3).map (fun i => (i.zero, i.size, i.bytes)) = some (some (.int .i64 0), 1, 8) := by kernel_rfl
/-- one number more behind a list of the call's own -/
theorem runes_append {X : World} {B0 : Nat} {v : Value} {xs : List Nat} (h : X.ownsRow B0 3 1 v xs.length (xs.map (fun n : Nat => Value.int .i64 (n : Int)))) (hb : B0 ≤ X.heap.size) (hl : xs.length < 549755813888) (ad : Addr) (c : Nat) (y : Nat) (hy : X.cell? (ad.add 0) = some (.int .i64 (y : Int))) :
  ∃ v' W, (Builtin.append_ #[116, 116] 116 #[v, .slice (some ad) 1 c]).run Tryz.prog X = .ok v' W ∧ W.ownsRow B0 3 1 v' (xs ++ [y]).length ((xs ++ [y]).map (fun n : Nat => Value.int .i64 (n : Int))) ∧ X.grownBy W v.ownBlock := by
 obtain ⟨i0, hi, hz0, hz1, hz2⟩ := info_parts info3d
 obtain ⟨v', W, hrun, hown, hgrow, hnil, hat⟩ := run_append_own_at X B0 116 116 3 i0 _ 1 8 Tryz.underlying116 hi hz0 hz1 hz2 rfl (by decide) v xs.length _ h ad 1 c [.int .i64 (y : Int)] rfl (fun j u hj => by
  match j, hj with
  | 0, hj => simp at hj; subst hj; exact hy) (by intro u hu; simp at hu; subst hu; rfl) (by unfold maxLen; omega) (by omega) hb
 exact ⟨v', W, hrun, by rw [List.map_append, List.length_append]; exact hown, hgrow⟩
theorem runesFrom_end (s : ByteArray) (k p : Nat) (h : ¬ p < s.size) : runesFrom s k p = [] := by
 cases k with
 | zero => rfl
 | succ k => simp only [runesFrom, if_neg h]
theorem runesFrom_length (s : ByteArray) : ∀ k p, (runesFrom s k p).length ≤ s.size - p
 | 0, p => by simp [runesFrom]
 | k + 1, p => by
  simp only [runesFrom]
  split
  ·have h1 := runesFrom_length s k (p + (Utf8.decode s p).2)
   have h2 := Lib.width_pos s p
   simp only [List.length_cons]; omega
  ·simp
theorem own_lower {w : World} {b b' : Nat} {e : TypeId} {sz : Nat} {v : Value} {n : Nat} {xs : List Value} (h : w.ownsRow b e sz v n xs) (hb : b' ≤ b) : w.ownsRow b' e sz v n xs := by
 refine ⟨h.1, ?_⟩
 rcases h.2 with h2 | ⟨g, cap, cur, h1, h2, h3⟩
 ·exact .inl h2
 ·exact .inr ⟨g, cap, cur, h1, by omega, h3⟩
/-- what Decode tells -/
def RunesPost (s : ByteArray) (w : World) (e : Ending) (w' : World) : Prop := Below w.heap.size w w' ∧
 if badFrom s (s.size + 1) 0 < s.size then e = .returned (.tuple #[.slice none 0 0, .int .i64 20])
 else ∃ v, e = .returned (.tuple #[v, .int .i64 0]) ∧ w'.ownsRow w.heap.size 3 1 v (runesFrom s (s.size + 1) 0).length ((runesFrom s (s.size + 1) 0).map (fun n : Nat => Value.int .i64 (n : Int)))
/-- between two rounds -/
structure RnSt (s : ByteArray) (w2 wr : World) (v : Value) (xs : List Nat) (p : Nat) : Prop where
 bel : Below w2.heap.size w2 wr
 it : wr.heap[w2.heap.size]? = some (.stringIter s p)
 own : wr.ownsRow (w2.heap.size + 1) 3 1 v xs.length (xs.map (fun n : Nat => Value.int .i64 (n : Int)))
set_option maxHeartbeats 8000000 in
set_option maxRecDepth 100000 in
theorem Decode_calls (s : ByteArray) (w : World) (hT : Lib.Utf8Tabs 0 1 w) (hs : s.size < 549755813888) : Calls Tryz.prog 65 #[.string s] w (RunesPost s w) := by
 have HV := Lib.hid (Valid_calls s w hT)
 have hlen := runesFrom_length s (s.size + 1) 0
 obtain ⟨RT, hRT⟩ : ∃ RT, RT = runesFrom s (s.size + 1) 0 := ⟨_, rfl⟩
 have hRl : RT.length < 549755813888 := by rw [hRT]; omega
 unfold RunesPost
 rw [← hRT]
 have HRT := Lib.hid hRT
 obtain ⟨B, hB⟩ : ∃ B, B = badFrom s (s.size + 1) 0 := ⟨_, rfl⟩
 rw [← hB] at HV
 rw [← hB]
 obtain ⟨BI, hBI⟩ : ∃ BI : Int, BI = (B : Int) := ⟨_, rfl⟩
 rw [← hBI] at HV
 have HRL := Lib.hid hRl
 clear hT hRT hB hlen hRl
 go_enter Tryz.func65, Tryz.ntmps65
 go_wp2_with fail
 refine HV.out.mono ?_
 rintro e w2 ⟨rfl, hb2⟩
 have HB2 := Lib.hid hb2
 clear hb2 HV
 by_cases hbad : B < s.size
 ·have hb1 : BI < (s.size : Int) := by omega
  have HBAD := Lib.hid hbad
  clear hbad hBI
  go_wp2_with fail
  go_ret2
  exact ⟨HB2.out, by first | rfl | (rw [if_pos HBAD.out]; rfl) | (simp [HBAD.out]; done)⟩
 ·have hb1 : ¬ BI < (s.size : Int) := by omega
  have HBAD := Lib.hid hbad
  clear hbad hBI
  go_wp2_with fail
  clear hb1
  go_loopg [4] (s.size + 1) (fun gg s4 wr => ∃ (v : Value) (xs : List Nat) (p k : Nat), v = s4 ∧ s.size < p + k ∧ k ≤ gg ∧ xs.length ≤ p ∧ Aside0 (RnSt s w2 wr v xs p ∧ xs ++ runesFrom s k p = RT))
  case atStart => exact ⟨_, [], 0, s.size + 1, rfl, by omega, Nat.le_refl _, Nat.le_refl _, ⟨⟨(Below.refl _ w2).alloc (Nat.le_refl _) _, World.iter_heap w2 s 0, ⟨rfl, .inl ⟨rfl, rfl⟩⟩⟩, HRT.out.symm⟩⟩
  case round =>
   obtain ⟨v, xs, p, k, rfl, hpk, hgg, hxp, HQ⟩ := hrel
   by_cases hp : p < s.size
   ·obtain ⟨k, rfl⟩ : ∃ j, k = j + 1 := ⟨k - 1, by omega⟩
    obtain ⟨W1, hW1⟩ : ∃ W1, W1 = wr.iterAt w2.heap.size s (p + (Utf8.decode s p).2) := ⟨_, rfl⟩
    have hnext : ∀ ty, (Instr.next (.pointer (some ⟨w2.heap.size, 0, none⟩)) true ty).run Tryz.prog wr = .ok (.tuple #[.bool true, .int .i64 p, .int .i32 (Utf8.decode s p).1]) W1 := fun ty => by rw [hW1]; exact Lib.run_next_any_at wr w2.heap.size s p ty HQ.out.1.it hp
    have hbW : Below w2.heap.size w2 W1 := by rw [hW1]; exact Lib.below_iterAt HQ.out.1.bel (Nat.le_refl _) s _
    have hiW : W1.heap[w2.heap.size]? = some (.stringIter s (p + (Utf8.decode s p).2)) := by rw [hW1]; exact Lib.iterAt_heap wr _ s p _ HQ.out.1.it
    have hoW : W1.ownsRow (w2.heap.size + 1) 3 1 v xs.length (xs.map (fun n : Nat => Value.int .i64 (n : Int))) := own_move HQ.out.1.own (fun b hb => by
     rw [hW1]; exact Lib.iterAt_other wr _ _ s _ (by have := (HQ.out.1.own.lt b hb).1; omega))
    have hsW : wr.heap.size = W1.heap.size := by rw [hW1, Lib.iterAt_size]
    have hwid := Lib.width_pos s p
    have hle := Lib.rune_le s p
    have hQ1 := HQ.out.2
    simp only [runesFrom, if_pos hp] at hQ1
    obtain ⟨ru, hru⟩ : ∃ ru : Nat, ru = (Utf8.decode s p).1 := ⟨_, rfl⟩
    rw [← hru] at hnext hle hQ1
    obtain ⟨Y, hY⟩ : ∃ Y, Y = W1.alloc (.cells #[.int .i64 (ru : Int)] 3) := ⟨_, rfl⟩
    have hbY : Below W1.heap.size W1 Y := by rw [hY]; exact (Below.refl _ W1).alloc (Nat.le_refl _) _
    have hyY : Y.heap[W1.heap.size]? = some (.cells #[.int .i64 (ru : Int)] 3 (0, 0)) := by rw [hY]; exact World.alloc_heap_new W1 _
    have hK0 : w2.heap.size < W1.heap.size := (Array.getElem?_eq_some_iff.1 hiW).1
    obtain ⟨v', W6, hrun, hown, hgr⟩ := runes_append (own_move hoW (fun b hb => hbY.block b (hoW.lt b hb).2)) (by have := hbY.size; omega) (by omega) ⟨W1.heap.size, 0, none⟩ 1 ru (by rw [add_plain]; exact cell_heap hyY rfl)
    have hself : ∀ b, b ≤ w2.heap.size → W6.heap[b]? = W1.heap[b]? := fun b hb => (hgr.block b (by have := hbY.size; omega) (fun e => by have := (hoW.lt b e.symm).1; omega)).trans (hbY.block b (by omega))
    have hst : RnSt s w2 W6 v' (xs ++ [ru]) (p + (Utf8.decode s p).2) := by
     refine ⟨⟨hgr.os.trans (hbY.os.trans hbW.os), hgr.tape.trans (hbY.tape.trans hbW.tape), hgr.output.trans (hbY.output.trans hbW.output), Nat.le_trans hbW.size (Nat.le_trans hbY.size hgr.size), fun b hb => (hself b (by omega)).trans (hbW.block b hb)⟩, (hself _ (Nat.le_refl _)).trans hiW, hown⟩
    rw [hY] at hrun
    have HRUN := Lib.hid hrun
    have HST := Lib.hid hst
    have HQ1 := Lib.hid hQ1
    have HW := Lib.hid hwid
    have hwr : wrap64 (ru : Int) = (ru : Int) := w64_lit _ (by omega) (by omega)
    have hpi : (p : Int) ≤ (s.size : Int) := by omega
    clear hrun hst hself hown hgr hY hbY hyY hK0 hoW hsW hiW hbW hW1 hQ1 hwid hle hru
    go_wp2_with (at_builtin; refine Lib.wpList_append_run _ rfl _ _ _ _ rfl _ _ rfl rfl _ _ HRUN.out ?_)
    go_roundg k
    case measure => omega
    case rel => exact ⟨_, xs ++ [ru], _, k, rfl, by have := HW.out; omega, Nat.le_refl _, by have := HW.out; rw [List.length_append]; simp; omega, ⟨HST.out, by rw [List.append_assoc]; exact HQ1.out⟩⟩
   ·have hnext : ∀ ty, (Instr.next (.pointer (some ⟨w2.heap.size, 0, none⟩)) true ty).run Tryz.prog wr = .ok (.tuple #[.bool false]) wr := fun ty => Lib.run_next_end_at wr w2.heap.size s p ty HQ.out.1.it hp
    have HX := Lib.hid (show xs = RT by have h := HQ.out.2; rw [runesFrom_end s k p hp, List.append_nil] at h; exact h)
    clear hp
    go_wp2_with fail
    go_ret2
    refine ⟨HB2.out.trans (HQ.out.1.bel.mono HB2.out.size), ?_⟩
    try rw [if_neg HBAD.out]
    refine ⟨v, rfl, ?_⟩
    rw [← HX.out]
    exact own_lower HQ.out.1.own (by have := HB2.out.size; omega)
end Go.Proofs.YtamhkdlcoghdbaaGreatDoor.PCls
/- Out of Lit (wip/tools/prune2.py): the declarations alone that the texts of the trees name. -/
namespace Go.Proofs.YtamhkdlcoghdbaaGreatDoor.PCls
open Go.RowKit Go.Proofs.YtamhkdlcoghdbaaGreatDoorW.PrintWords Go.Proofs.YtamhkdlcoghdbaaGreatDoorW.PrintLast Go.Proofs.YtamhkdlcoghdbaaGreatDoorW.PrintMore
set_option linter.unusedVariables false
set_option linter.unusedSimpArgs false
/-- the set of a unit -/
def litR (fold : Bool) (c : Int) : List S64 := if fold then Cls.fold [⟨c, c⟩] else [⟨c, c⟩]
def litNT (fold : Bool) (c : Int) : NT := .mk 2 0 0 0 (litR fold c) []
theorem one_C {W : World} {b : Nat} {c : Int} (h : W.heap[b]? = some (.cells #[.int .i64 c, .int .i64 c] 39 (0, 0))) : Kd.C k64 W (some ⟨b, 0, none⟩) ([⟨c, c⟩] : List S64).length [⟨c, c⟩] := by
 refine ⟨rfl, by simp [maxLen], fun _ => ⟨_, rfl, fun j p hj => ?_⟩⟩
 have hj0 : j = 0 := by have := (List.getElem?_eq_some_iff.1 hj).1; simp at this; omega
 subst hj0
 simp at hj
 subst hj
 refine ⟨enc2 ⟨c, c⟩, rfl, k64_mk _ _, fun i u hu => ?_⟩
 rw [add_plain]
 match i, hu with
 | 0, hu => simp [enc2] at hu; subst hu; exact cell_heap h rfl
 | 1, hu => simp [enc2] at hu; subst hu; exact cell_heap h rfl
 | i + 2, hu => simp [enc2] at hu
set_option maxHeartbeats 8000000 in
set_option maxRecDepth 100000 in
theorem lit_plain (c : Int) (hc : -9223372036854775808 ≤ c ∧ c ≤ 9223372036854775807) (chars : Bool) (mB Bo base : Nat) (O : List NT) (W0 : World) (v0 : Value) (hBo : Bo < base) (hbs : base ≤ W0.heap.size) (hst : PutSt W0 W0 Bo base v0 v0 O) (hlen : O.length < 549755813888) (hm : W0.heap[mB]? = some (.cells #[.bool chars, .bool false] 23 (0, 0))) :
  Calls Tryz.prog 62 #[.int .i64 c, .pointer (some ⟨mB, 0, none⟩), .pointer (some ⟨Bo, 0, none⟩)] W0 fun e w' => e = .returned (.tuple #[]) ∧ ∃ v, PutSt W0 w' Bo base v0 v (O ++ [litNT false c]) := by
 obtain ⟨va, vc, rfl⟩ : ∃ va vc, v0 = .slice va O.length vc := by
  obtain ⟨cs, _, h2, _⟩ := hst.trees
  rcases h2.2 with ⟨e, e0⟩ | ⟨g, cap, cur, e, _⟩
  ·exact ⟨none, 0, by rw [e, e0]⟩
  ·exact ⟨_, _, e⟩
 have HST := Lib.hid hst
 have HB := Lib.hid (And.intro hBo hbs)
 have HO := Lib.hid hlen
 obtain ⟨WM, hWM⟩ : ∃ WM, WM = W0.alloc (.cells #[.int .i64 c, .int .i64 c] 39) := ⟨_, rfl⟩
 have hbM : Below W0.heap.size W0 WM := by rw [hWM]; exact (Below.refl _ W0).alloc (Nat.le_refl _) _
 have hrM : WM.heap[W0.heap.size]? = some (.cells #[.int .i64 c, .int .i64 c] 39 (0, 0)) := by rw [hWM]; exact World.alloc_heap_new W0 _
 have hsM : WM.heap.size = W0.heap.size + 1 := by rw [hWM]; simp
 have hmM := (hbM.block mB (Array.getElem?_eq_some_iff.1 hm).1).trans hm
 have hin : inR [(⟨c, c⟩ : S64)] = true := by simp [inR]; omega
 have hC1 := one_C hrM
 have m1 := cell_heap (i := 1) hmM rfl
 rw [hWM] at m1
 have HM := Lib.hid (And.intro hbM (And.intro hsM hWM))
 have HC1 := Lib.hid (And.intro hC1 hin)
 clear hst hBo hbs hlen hbM hrM hsM hmM hm hC1 hin hWM
 go_enter Tryz.func62, Tryz.ntmps62
 go_upto_region 3 with (fail)
 rw [← HM.out.2.2]
 obtain ⟨W6, hW6⟩ : ∃ W6, W6 = WM := ⟨_, rfl⟩
 obtain ⟨rr, hrr⟩ : ∃ rr : List S64, rr = [⟨c, c⟩] := ⟨_, rfl⟩
 obtain ⟨ra, hra⟩ : ∃ ra : Option Addr, ra = some ⟨W0.heap.size, 0, none⟩ := ⟨_, rfl⟩
 have hl1 : rr.length = 1 := by rw [hrr]; rfl
 have HP6 := Lib.hid (show PutSt W0 W6 Bo base (.slice va O.length vc) (.slice va O.length vc) O by rw [hW6]; exact HST.out.below HM.out.1)
 have HN6 := Lib.hid (show NIn W6 (fun b => W0.heap.size ≤ b ∧ b < W6.heap.size) (.mk 2 0 0 0 rr []) [.int .i64 2, .int .i64 0, .int .i64 0, .int .i64 0, .slice ra rr.length 1, .slice none 0 0] from
  NIn.mk 2 0 0 0 rr [] ra none 1 0 (fun _ => []) (by rw [hW6, hrr, hra]; exact HC1.out.1) (fun ad e _ => by rw [hra] at e; cases e; rw [hW6, HM.out.2.1]; simp only; omega) (by omega) (by omega) (by rw [hrr]; exact HC1.out.2) (by simp) (by simp) (fun j t h => by simp at h) (fun j h => by simp at h))
 rw [← hW6]
 rw [show (Value.slice (some ⟨W0.heap.size, 0, none⟩) 1 1) = Value.slice ra rr.length 1 by rw [hra, hl1]]
 have HRR := Lib.hid (show litNT false c = .mk 2 0 0 0 rr [] by rw [hrr]; rfl)
 clear hW6 hrr hra hl1 m1
 have HBa := Lib.hid (show Below W6.heap.size W6 W6.drew from (Below.refl _ W6).drew)
 refine start_ (n := 9) (S := fun w' => w'.cell? ⟨Bo, 0, none⟩ = some (.slice va O.length vc)) (ds := [7, 8]) #[Z,Z,Z,Z,Z,Z,Z,Z,Z] (by kernel_rfl) rfl rfl (HP6.out.below HBa.out).box.cell (fun hHeld => ?_)
 refine with_self (fun HT_ => ?_)
 generalize W6.drew = w7 at HBa hHeld ⊢
 refine take_ (i := 0) (N := some 13) (v := ?_) (a' := ?_) #[I,Z,Z,Z,Z,Z,Z,Z,Z] rfl rfl (take_of HT_.out (by kernel_rfl)) (fun _ _ _ h => h) (Or.inl ⟨by rfl, ?_⟩) hHeld ?_ ?_
 rotate_left
 ·rintro w' s0
  go_simp
  with_reducible rfl
 rotate_left
 ·simp only [Act.put, pu_, pz_, ps_, i64_w, i32_w]
  rfl
 refine pure_ (i := 1) (N := some 14) (v := ?_) (a' := ?_) #[I,I,Z,Z,Z,Z,Z,Z,Z] rfl rfl (any_of HT_.out (by kernel_rfl)) (fun _ _ _ h => h) (Or.inl ⟨by rfl, ?_⟩) ?_ ?_
 rotate_left
 ·intro w'
  go_simp
  with_reducible rfl
 rotate_left
 ·simp only [Act.put, pu_, pz_, ps_, i64_w, i32_w]
  rfl
 refine pure_ (i := 2) (N := some 15) (v := ?_) (a' := ?_) #[I,I,I,Z,Z,Z,Z,Z,Z] rfl rfl (any_of HT_.out (by kernel_rfl)) (fun _ _ _ h => h) (Or.inl ⟨by rfl, ?_⟩) ?_ ?_
 rotate_left
 ·intro w'
  go_simp
  with_reducible rfl
 rotate_left
 ·simp only [Act.put, pu_, pz_, ps_, i64_w, i32_w]
  rfl
 refine pure_ (i := 3) (N := some 16) (v := ?_) (a' := ?_) #[I,I,I,I,Z,Z,Z,Z,Z] rfl rfl (any_of HT_.out (by kernel_rfl)) (fun _ _ _ h => h) (Or.inl ⟨by rfl, ?_⟩) ?_ ?_
 rotate_left
 ·intro w'
  go_simp
  with_reducible rfl
 rotate_left
 ·simp only [Act.put, pu_, pz_, ps_, i64_w, i32_w]
  rfl
 refine one_ (i := 4) (N := some 17) #[I,I,I,I,I,Z,Z,Z,Z] rfl rfl (one_of HT_.out (by kernel_rfl)) (by decide) (fun K hK => ?_)
 refine value_ (v := .slice (some ⟨w7.heap.size, 0, none⟩) 1 1) (w1 := w7.alloc (.cells #[.int .i64 0, .int .i64 0, .int .i64 0, .int .i64 0, .slice none 0 0, .slice none 0 0] 43)) (by rfl) rfl (by go_simp; first | done | rfl) ?_
 obtain ⟨w8, hnw⟩ : ∃ x, x = w7.alloc (.cells #[.int .i64 0, .int .i64 0, .int .i64 0, .int .i64 0, .slice none 0 0, .slice none 0 0] 43) := ⟨_, rfl⟩
 rw [← hnw]
 have hBn : Below w7.heap.size w7 w8 := by rw [hnw]; exact (Below.refl _ w7).alloc (Nat.le_refl _) _
 have hzn : w8.heap[w7.heap.size]? = some (.cells #[.int .i64 0, .int .i64 0, .int .i64 0, .int .i64 0, .slice none 0 0, .slice none 0 0] 43 (0, 0)) := by rw [hnw]; exact World.alloc_heap_new w7 _
 have HB_w8 := Lib.hid (HBa.out.trans (hBn.mono HBa.out.size))
 have HZ := Lib.hid hzn
 clear hBn hzn hnw
 clear hHeld
 refine hK.out _ _ (HP6.out.below HB_w8.out).box.cell (fun hHeld => ?_)
 clear hK K
 refine norm_ (a' := ?_) ?_ ?_
 rotate_left
 ·show Act.put _ (some 17) _ = _
  simp only [Act.put, pu_, pz_, ps_, i64_w, i32_w]
  rfl
 have hPX := HP6.out.below HB_w8.out
 have hown : ∀ k, (Value.slice va O.length vc).ownBlock = some k → k < W0.heap.size := fun k hk => by obtain ⟨cs, _, h2, _⟩ := HST.out.trees; exact (h2.lt k hk).2
 have hzz : ∀ j u, zero6[j]? = some u → w8.cell? ((⟨w7.heap.size, 0, none⟩ : Addr).add j) = some u := fun j u hu => by
  rw [add_plain]
  exact cell_heap HZ.out (by simpa [zero6] using hu)
 have hNX : NIn w8 (fun b => W0.heap.size ≤ b ∧ b < w8.heap.size ∧ some b ≠ (Value.slice va O.length vc).ownBlock) (.mk 2 0 0 0 rr []) [.int .i64 2, .int .i64 0, .int .i64 0, .int .i64 0, .slice ra rr.length 1, .slice none 0 0] := (HN6.out.move (fun b hb => HB_w8.out.block b hb.2)).mono (fun b hb => ⟨hb.1, Nat.lt_of_lt_of_le hb.2 HB_w8.out.size, fun e => by have := hown b e.symm; omega⟩)
 obtain ⟨g, cap, WA, hrun, hcap, hsA, hkA, hbA, hfA, hcA, hgB, st1, st2⟩ := put_append hPX HB.out.1 HB.out.2 HO.out ⟨w7.heap.size, 0, none⟩ hzz hNX
 refine one_ (i := 5) (N := some 18) #[I,I,I,I,I,I,Z,Z,Z] rfl rfl (one_of HT_.out (by kernel_rfl)) (by decide) (fun K hK => ?_)
 refine appended_ _ _ 41 rfl (by rfl) rfl rfl rfl hrun ?_
 clear hHeld
 refine hK.out _ _ hbA.cell (fun hHeld => ?_)
 clear hK K
 refine norm_ (a' := ?_) ?_ ?_
 rotate_left
 ·show Act.put _ (some 18) _ = _
  simp only [Act.put, pu_, pz_, ps_, i64_w, i32_w]
  rfl
 have hix : (O.length : Int) < (O.length : Int) + 1 := by omega
 refine pure_ (i := 6) (N := some 19) (v := ?_) (a' := ?_) #[I,I,I,I,I,I,I,Z,Z] rfl rfl (any_of HT_.out (by kernel_rfl)) (fun _ _ _ h => h) (Or.inl ⟨by rfl, ?_⟩) ?_ ?_
 rotate_left
 ·intro w'
  go_simp
  try rw [if_pos hix]
  with_reducible rfl
 rotate_left
 ·simp only [Act.put, pu_, pz_, ps_, i64_w, i32_w]
  rfl
 obtain ⟨y0, z0⟩ := hcA 0 (by decide)
 obtain ⟨y1, z1⟩ := hcA 1 (by decide)
 obtain ⟨y2, z2⟩ := hcA 2 (by decide)
 obtain ⟨y3, z3⟩ := hcA 3 (by decide)
 obtain ⟨y4, z4⟩ := hcA 4 (by decide)
 obtain ⟨y5, z5⟩ := hcA 5 (by decide)
 rw [Nat.add_zero] at z0
 have cb := hbA.cell
 have fb := hbA.frozen
 have HBA := Lib.hid hbA
 have HST1 := Lib.hid st1
 have HST2 := Lib.hid st2
 clear st1 st2 hPX hown hzz hNX hkA hcA hrun hcap hsA hbA
 refine lasts_ (i := 7) (j := 8) (Ni := none) (Nj := none) #[I,I,I,I,I,I,I,I,Z] #[I,I,I,I,I,I,I,Z,I] rfl rfl rfl rfl HT_.out (by kernel_rfl) (by decide) (by decide) (fun K hK => ?_) (fun K hK => ?_)
 ·refine skip_ (w1 := ?_) (by rfl) rfl ?_ ?_
  rotate_left
  ·go_simp
   rfl
  refine hK.out _ _ ?_
  clear hK K
  have bY : Boxed (put6 WA g (O.length * 6) (.int .i64 2) (.int .i64 0) (.int .i64 0) (.int .i64 0) (.slice ra rr.length 1) (.slice none 0 0)) Bo 41 (.slice va O.length vc) := (put6_other _ _ _ _ _ _ _ _ _ Bo (fun e => hgB e.symm)).trans HBA.out
  change wpAnyLast _ _ _ _ _ _ _ _ _ (put6 WA g (O.length * 6) (.int .i64 2) (.int .i64 0) (.int .i64 0) (.int .i64 0) (.slice ra rr.length 1) (.slice none 0 0))
  have HS1 := HST1.out
  clear z0 z1 z2 z3 z4 z5 hfA cb fb
  generalize put6 WA g (O.length * 6) (.int .i64 2) (.int .i64 0) (.int .i64 0) (.int .i64 0) (.slice ra rr.length 1) (.slice none 0 0) = WY at bY HS1 ⊢
  have cY := bY.cell
  have fY := bY.frozen
  have HSS := Lib.hid HS1
  clear bY HS1
  refine last_ (i := 8) (N := none) #[I,I,I,I,I,I,I,I,I] rfl rfl (one_of HT_.out (by kernel_rfl)) (by decide) (fun K hK => ?_)
  refine skip_ (w1 := ?_) (by rfl) rfl ?_ ?_
  rotate_left
  ·go_simp
   rfl
  refine hK.out _ _ ?_
  clear hK K
  refine done_ (done_of HT_.out (by kernel_rfl)) ?_
  clear HT_ cY fY
  go_end0
  rw [HRR.out]
  exact ⟨rfl, _, HSS.out⟩
 ·refine skip_ (w1 := ?_) (by rfl) rfl ?_ ?_
  rotate_left
  ·go_simp
   rfl
  refine hK.out _ _ ?_
  clear hK K
  have gY : ∀ o u, WA.cell? ⟨g, o, none⟩ = some u → (WA.setCell ⟨Bo, 0, none⟩ (.slice (some ⟨g, 0, none⟩) (O.length + 1) cap)).cell? ⟨g, o, none⟩ = some u := fun o u hu => by rw [World.cell?_of_block (w := WA) (a := ⟨g, o, none⟩) (Below.heap_setCell _ _ _ _ hgB)]; exact hu
  have hY : ∀ o, (WA.setCell ⟨Bo, 0, none⟩ (.slice (some ⟨g, 0, none⟩) (O.length + 1) cap)).frozen? ⟨g, o, none⟩ = false := fun o => by rw [World.frozen?_of_block (w := WA) (a := ⟨g, o, none⟩) (Below.heap_setCell _ _ _ _ hgB)]; exact hfA o
  have t0 := gY _ _ z0
  have t1 := gY _ _ z1
  have t2 := gY _ _ z2
  have t3 := gY _ _ z3
  have t4 := gY _ _ z4
  have t5 := gY _ _ z5
  have HS1 := HST2.out
  clear z0 z1 z2 z3 z4 z5 hfA cb fb gY
  generalize WA.setCell ⟨Bo, 0, none⟩ (.slice (some ⟨g, 0, none⟩) (O.length + 1) cap) = WY at t0 t1 t2 t3 t4 t5 hY HS1 ⊢
  have HSS := Lib.hid HS1
  clear HS1
  refine last_ (i := 7) (N := none) #[I,I,I,I,I,I,I,I,I] rfl rfl (one_of HT_.out (by kernel_rfl)) (by decide) (fun K hK => ?_)
  refine skip_ (w1 := ?_) (by rfl) rfl ?_ ?_
  rotate_left
  ·go_simp
   rfl
  refine hK.out _ _ ?_
  clear hK K
  refine done_ (done_of HT_.out (by kernel_rfl)) ?_
  clear HT_ t0 t1 t2 t3 t4 t5 hY
  go_end0
  rw [HRR.out]
  exact ⟨rfl, _, HSS.out⟩
set_option maxHeartbeats 8000000 in
set_option maxRecDepth 100000 in
theorem lit_fold (c : Int) (hc : -9223372036854775808 ≤ c ∧ c ≤ 9223372036854775807) (chars : Bool) (mB Bo base : Nat) (O : List NT) (W0 : World) (v0 : Value) (hBo : Bo < base) (hbs : base ≤ W0.heap.size) (hst : PutSt W0 W0 Bo base v0 v0 O) (hlen : O.length < 549755813888) (hm : W0.heap[mB]? = some (.cells #[.bool chars, .bool true] 23 (0, 0))) :
  Calls Tryz.prog 62 #[.int .i64 c, .pointer (some ⟨mB, 0, none⟩), .pointer (some ⟨Bo, 0, none⟩)] W0 fun e w' => e = .returned (.tuple #[]) ∧ ∃ v, PutSt W0 w' Bo base v0 v (O ++ [litNT true c]) := by
 obtain ⟨va, vc, rfl⟩ : ∃ va vc, v0 = .slice va O.length vc := by
  obtain ⟨cs, _, h2, _⟩ := hst.trees
  rcases h2.2 with ⟨e, e0⟩ | ⟨g, cap, cur, e, _⟩
  ·exact ⟨none, 0, by rw [e, e0]⟩
  ·exact ⟨_, _, e⟩
 have HST := Lib.hid hst
 have HB := Lib.hid (And.intro hBo hbs)
 have HO := Lib.hid hlen
 obtain ⟨WM, hWM⟩ : ∃ WM, WM = W0.alloc (.cells #[.int .i64 c, .int .i64 c] 39) := ⟨_, rfl⟩
 have hbM : Below W0.heap.size W0 WM := by rw [hWM]; exact (Below.refl _ W0).alloc (Nat.le_refl _) _
 have hrM : WM.heap[W0.heap.size]? = some (.cells #[.int .i64 c, .int .i64 c] 39 (0, 0)) := by rw [hWM]; exact World.alloc_heap_new W0 _
 have hsM : WM.heap.size = W0.heap.size + 1 := by rw [hWM]; simp
 have hmM := (hbM.block mB (Array.getElem?_eq_some_iff.1 hm).1).trans hm
 have hin : inR [(⟨c, c⟩ : S64)] = true := by simp [inR]; omega
 have hC1 := one_C hrM
 have m1 := cell_heap (i := 1) hmM rfl
 rw [hWM] at m1
 have HM := Lib.hid (And.intro hbM (And.intro hsM hWM))
 have HC1 := Lib.hid (And.intro hC1 hin)
 clear hst hBo hbs hlen hbM hrM hsM hmM hm hC1 hin hWM
 go_enter Tryz.func62, Tryz.ntmps62
 have hcf := classes_Fold.calls (some ⟨W0.heap.size, 0, none⟩) 1 [⟨c, c⟩] (Cls.fold [⟨c, c⟩]) WM HC1.out.1 (by simp) (by unfold classes_Fold.f; rw [if_pos (by simp), if_pos HC1.out.2])
 have HCF := Lib.hid hcf
 clear hcf
 go_wp2_with fail
 rw [← HM.out.2.2]
 refine HCF.out.mono ?_
 rintro e W6 ⟨vf, rfl, hR, hb6⟩
 obtain ⟨rr, hrr⟩ : ∃ rr, rr = Cls.fold [⟨c, c⟩] := ⟨_, rfl⟩
 rw [← hrr] at hR
 obtain ⟨ra, rc, rfl, hrc, hCR⟩ := Kd.R_reads hR
 have hbb : Below W0.heap.size W0 W6 := HM.out.1.trans (hb6.mono HM.out.1.size)
 have hl1 : rr.length ≤ 53 := by rw [hrr]; exact fold_length [⟨c, c⟩]
 have HP6 := Lib.hid (HST.out.below hbb)
 have HN6 := Lib.hid (show NIn W6 (fun b => W0.heap.size ≤ b ∧ b < W6.heap.size) (.mk 2 0 0 0 rr []) [.int .i64 2, .int .i64 0, .int .i64 0, .int .i64 0, .slice ra rr.length rc, .slice none 0 0] from
  NIn.mk 2 0 0 0 rr [] ra none rc 0 (fun _ => []) hCR (fun ad e hne => by
   obtain ⟨g, cap, e2, h1, h2, _⟩ := Kd.R_form hR (by cases rr with | nil => exact absurd rfl hne | cons _ _ => simp)
   simp only [Value.slice.injEq, true_and] at e2
   rw [e2.1] at e; cases e
   have := HM.out.2.1
   exact ⟨by simp only; omega, by simp only; omega⟩) hrc (by omega) (by rw [hrr]; exact linR_cls _ (toFold_inR _ HC1.out.2)) (by simp) (by simp) (fun j t h => by simp at h) (fun j h => by simp at h))
 have HRR := Lib.hid (show litNT true c = .mk 2 0 0 0 rr [] by rw [hrr]; rfl)
 clear hR hb6 hrr hrc hCR hbb hl1 HCF m1
 go_upto_region 3 with (fail)
 have HBa := Lib.hid (show Below W6.heap.size W6 W6.drew from (Below.refl _ W6).drew)
 refine start_ (n := 9) (S := fun w' => w'.cell? ⟨Bo, 0, none⟩ = some (.slice va O.length vc)) (ds := [7, 8]) #[Z,Z,Z,Z,Z,Z,Z,Z,Z] (by kernel_rfl) rfl rfl (HP6.out.below HBa.out).box.cell (fun hHeld => ?_)
 refine with_self (fun HT_ => ?_)
 generalize W6.drew = w7 at HBa hHeld ⊢
 refine take_ (i := 0) (N := some 13) (v := ?_) (a' := ?_) #[I,Z,Z,Z,Z,Z,Z,Z,Z] rfl rfl (take_of HT_.out (by kernel_rfl)) (fun _ _ _ h => h) (Or.inl ⟨by rfl, ?_⟩) hHeld ?_ ?_
 rotate_left
 ·rintro w' s0
  go_simp
  with_reducible rfl
 rotate_left
 ·simp only [Act.put, pu_, pz_, ps_, i64_w, i32_w]
  rfl
 refine pure_ (i := 1) (N := some 14) (v := ?_) (a' := ?_) #[I,I,Z,Z,Z,Z,Z,Z,Z] rfl rfl (any_of HT_.out (by kernel_rfl)) (fun _ _ _ h => h) (Or.inl ⟨by rfl, ?_⟩) ?_ ?_
 rotate_left
 ·intro w'
  go_simp
  with_reducible rfl
 rotate_left
 ·simp only [Act.put, pu_, pz_, ps_, i64_w, i32_w]
  rfl
 refine pure_ (i := 2) (N := some 15) (v := ?_) (a' := ?_) #[I,I,I,Z,Z,Z,Z,Z,Z] rfl rfl (any_of HT_.out (by kernel_rfl)) (fun _ _ _ h => h) (Or.inl ⟨by rfl, ?_⟩) ?_ ?_
 rotate_left
 ·intro w'
  go_simp
  with_reducible rfl
 rotate_left
 ·simp only [Act.put, pu_, pz_, ps_, i64_w, i32_w]
  rfl
 refine pure_ (i := 3) (N := some 16) (v := ?_) (a' := ?_) #[I,I,I,I,Z,Z,Z,Z,Z] rfl rfl (any_of HT_.out (by kernel_rfl)) (fun _ _ _ h => h) (Or.inl ⟨by rfl, ?_⟩) ?_ ?_
 rotate_left
 ·intro w'
  go_simp
  with_reducible rfl
 rotate_left
 ·simp only [Act.put, pu_, pz_, ps_, i64_w, i32_w]
  rfl
 refine one_ (i := 4) (N := some 17) #[I,I,I,I,I,Z,Z,Z,Z] rfl rfl (one_of HT_.out (by kernel_rfl)) (by decide) (fun K hK => ?_)
 refine value_ (v := .slice (some ⟨w7.heap.size, 0, none⟩) 1 1) (w1 := w7.alloc (.cells #[.int .i64 0, .int .i64 0, .int .i64 0, .int .i64 0, .slice none 0 0, .slice none 0 0] 43)) (by rfl) rfl (by go_simp; first | done | rfl) ?_
 obtain ⟨w8, hnw⟩ : ∃ x, x = w7.alloc (.cells #[.int .i64 0, .int .i64 0, .int .i64 0, .int .i64 0, .slice none 0 0, .slice none 0 0] 43) := ⟨_, rfl⟩
 rw [← hnw]
 have hBn : Below w7.heap.size w7 w8 := by rw [hnw]; exact (Below.refl _ w7).alloc (Nat.le_refl _) _
 have hzn : w8.heap[w7.heap.size]? = some (.cells #[.int .i64 0, .int .i64 0, .int .i64 0, .int .i64 0, .slice none 0 0, .slice none 0 0] 43 (0, 0)) := by rw [hnw]; exact World.alloc_heap_new w7 _
 have HB_w8 := Lib.hid (HBa.out.trans (hBn.mono HBa.out.size))
 have HZ := Lib.hid hzn
 clear hBn hzn hnw
 clear hHeld
 refine hK.out _ _ (HP6.out.below HB_w8.out).box.cell (fun hHeld => ?_)
 clear hK K
 refine norm_ (a' := ?_) ?_ ?_
 rotate_left
 ·show Act.put _ (some 17) _ = _
  simp only [Act.put, pu_, pz_, ps_, i64_w, i32_w]
  rfl
 have hPX := HP6.out.below HB_w8.out
 have hown : ∀ k, (Value.slice va O.length vc).ownBlock = some k → k < W0.heap.size := fun k hk => by obtain ⟨cs, _, h2, _⟩ := HST.out.trees; exact (h2.lt k hk).2
 have hzz : ∀ j u, zero6[j]? = some u → w8.cell? ((⟨w7.heap.size, 0, none⟩ : Addr).add j) = some u := fun j u hu => by
  rw [add_plain]
  exact cell_heap HZ.out (by simpa [zero6] using hu)
 have hNX : NIn w8 (fun b => W0.heap.size ≤ b ∧ b < w8.heap.size ∧ some b ≠ (Value.slice va O.length vc).ownBlock) (.mk 2 0 0 0 rr []) [.int .i64 2, .int .i64 0, .int .i64 0, .int .i64 0, .slice ra rr.length rc, .slice none 0 0] := (HN6.out.move (fun b hb => HB_w8.out.block b hb.2)).mono (fun b hb => ⟨hb.1, Nat.lt_of_lt_of_le hb.2 HB_w8.out.size, fun e => by have := hown b e.symm; omega⟩)
 obtain ⟨g, cap, WA, hrun, hcap, hsA, hkA, hbA, hfA, hcA, hgB, st1, st2⟩ := put_append hPX HB.out.1 HB.out.2 HO.out ⟨w7.heap.size, 0, none⟩ hzz hNX
 refine one_ (i := 5) (N := some 18) #[I,I,I,I,I,I,Z,Z,Z] rfl rfl (one_of HT_.out (by kernel_rfl)) (by decide) (fun K hK => ?_)
 refine appended_ _ _ 41 rfl (by rfl) rfl rfl rfl hrun ?_
 clear hHeld
 refine hK.out _ _ hbA.cell (fun hHeld => ?_)
 clear hK K
 refine norm_ (a' := ?_) ?_ ?_
 rotate_left
 ·show Act.put _ (some 18) _ = _
  simp only [Act.put, pu_, pz_, ps_, i64_w, i32_w]
  rfl
 have hix : (O.length : Int) < (O.length : Int) + 1 := by omega
 refine pure_ (i := 6) (N := some 19) (v := ?_) (a' := ?_) #[I,I,I,I,I,I,I,Z,Z] rfl rfl (any_of HT_.out (by kernel_rfl)) (fun _ _ _ h => h) (Or.inl ⟨by rfl, ?_⟩) ?_ ?_
 rotate_left
 ·intro w'
  go_simp
  try rw [if_pos hix]
  with_reducible rfl
 rotate_left
 ·simp only [Act.put, pu_, pz_, ps_, i64_w, i32_w]
  rfl
 obtain ⟨y0, z0⟩ := hcA 0 (by decide)
 obtain ⟨y1, z1⟩ := hcA 1 (by decide)
 obtain ⟨y2, z2⟩ := hcA 2 (by decide)
 obtain ⟨y3, z3⟩ := hcA 3 (by decide)
 obtain ⟨y4, z4⟩ := hcA 4 (by decide)
 obtain ⟨y5, z5⟩ := hcA 5 (by decide)
 rw [Nat.add_zero] at z0
 have cb := hbA.cell
 have fb := hbA.frozen
 have HBA := Lib.hid hbA
 have HST1 := Lib.hid st1
 have HST2 := Lib.hid st2
 clear st1 st2 hPX hown hzz hNX hkA hcA hrun hcap hsA hbA
 refine lasts_ (i := 7) (j := 8) (Ni := none) (Nj := none) #[I,I,I,I,I,I,I,I,Z] #[I,I,I,I,I,I,I,Z,I] rfl rfl rfl rfl HT_.out (by kernel_rfl) (by decide) (by decide) (fun K hK => ?_) (fun K hK => ?_)
 ·refine skip_ (w1 := ?_) (by rfl) rfl ?_ ?_
  rotate_left
  ·go_simp
   rfl
  refine hK.out _ _ ?_
  clear hK K
  have bY : Boxed (put6 WA g (O.length * 6) (.int .i64 2) (.int .i64 0) (.int .i64 0) (.int .i64 0) (.slice ra rr.length rc) (.slice none 0 0)) Bo 41 (.slice va O.length vc) := (put6_other _ _ _ _ _ _ _ _ _ Bo (fun e => hgB e.symm)).trans HBA.out
  change wpAnyLast _ _ _ _ _ _ _ _ _ (put6 WA g (O.length * 6) (.int .i64 2) (.int .i64 0) (.int .i64 0) (.int .i64 0) (.slice ra rr.length rc) (.slice none 0 0))
  have HS1 := HST1.out
  clear z0 z1 z2 z3 z4 z5 hfA cb fb
  generalize put6 WA g (O.length * 6) (.int .i64 2) (.int .i64 0) (.int .i64 0) (.int .i64 0) (.slice ra rr.length rc) (.slice none 0 0) = WY at bY HS1 ⊢
  have cY := bY.cell
  have fY := bY.frozen
  have HSS := Lib.hid HS1
  clear bY HS1
  refine last_ (i := 8) (N := none) #[I,I,I,I,I,I,I,I,I] rfl rfl (one_of HT_.out (by kernel_rfl)) (by decide) (fun K hK => ?_)
  refine skip_ (w1 := ?_) (by rfl) rfl ?_ ?_
  rotate_left
  ·go_simp
   rfl
  refine hK.out _ _ ?_
  clear hK K
  refine done_ (done_of HT_.out (by kernel_rfl)) ?_
  clear HT_ cY fY
  go_end0
  rw [HRR.out]
  exact ⟨rfl, _, HSS.out⟩
 ·refine skip_ (w1 := ?_) (by rfl) rfl ?_ ?_
  rotate_left
  ·go_simp
   rfl
  refine hK.out _ _ ?_
  clear hK K
  have gY : ∀ o u, WA.cell? ⟨g, o, none⟩ = some u → (WA.setCell ⟨Bo, 0, none⟩ (.slice (some ⟨g, 0, none⟩) (O.length + 1) cap)).cell? ⟨g, o, none⟩ = some u := fun o u hu => by rw [World.cell?_of_block (w := WA) (a := ⟨g, o, none⟩) (Below.heap_setCell _ _ _ _ hgB)]; exact hu
  have hY : ∀ o, (WA.setCell ⟨Bo, 0, none⟩ (.slice (some ⟨g, 0, none⟩) (O.length + 1) cap)).frozen? ⟨g, o, none⟩ = false := fun o => by rw [World.frozen?_of_block (w := WA) (a := ⟨g, o, none⟩) (Below.heap_setCell _ _ _ _ hgB)]; exact hfA o
  have t0 := gY _ _ z0
  have t1 := gY _ _ z1
  have t2 := gY _ _ z2
  have t3 := gY _ _ z3
  have t4 := gY _ _ z4
  have t5 := gY _ _ z5
  have HS1 := HST2.out
  clear z0 z1 z2 z3 z4 z5 hfA cb fb gY
  generalize WA.setCell ⟨Bo, 0, none⟩ (.slice (some ⟨g, 0, none⟩) (O.length + 1) cap) = WY at t0 t1 t2 t3 t4 t5 hY HS1 ⊢
  have HSS := Lib.hid HS1
  clear HS1
  refine last_ (i := 7) (N := none) #[I,I,I,I,I,I,I,I,I] rfl rfl (one_of HT_.out (by kernel_rfl)) (by decide) (fun K hK => ?_)
  refine skip_ (w1 := ?_) (by rfl) rfl ?_ ?_
  rotate_left
  ·go_simp
   rfl
  refine hK.out _ _ ?_
  clear hK K
  refine done_ (done_of HT_.out (by kernel_rfl)) ?_
  clear HT_ t0 t1 t2 t3 t4 t5 hY
  go_end0
  rw [HRR.out]
  exact ⟨rfl, _, HSS.out⟩
theorem lit_calls (c : Int) (hc : -9223372036854775808 ≤ c ∧ c ≤ 9223372036854775807) (chars fold : Bool) (mB Bo base : Nat) (O : List NT) (W0 : World) (v0 : Value) (hBo : Bo < base) (hbs : base ≤ W0.heap.size) (hst : PutSt W0 W0 Bo base v0 v0 O) (hlen : O.length < 549755813888) (hm : W0.heap[mB]? = some (.cells #[.bool chars, .bool fold] 23 (0, 0))) :
  Calls Tryz.prog 62 #[.int .i64 c, .pointer (some ⟨mB, 0, none⟩), .pointer (some ⟨Bo, 0, none⟩)] W0 fun e w' => e = .returned (.tuple #[]) ∧ ∃ v, PutSt W0 w' Bo base v0 v (O ++ [litNT fold c]) := by
 cases fold with
 | false => exact lit_plain c hc chars mB Bo base O W0 v0 hBo hbs hst hlen hm
 | true => exact lit_fold c hc chars mB Bo base O W0 v0 hBo hbs hst hlen hm
end Go.Proofs.YtamhkdlcoghdbaaGreatDoor.PCls
