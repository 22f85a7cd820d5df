/- Put together (wip/tools/pack.py): QPf, QPg, QPh. -/
import Derived.Test.YtamhkdlcoghdbaaGreatDoorVMQPd
/- Out of Pf (wip/tools/prune2.py): the declarations alone that the texts of the trees name. -/
namespace Go.Proofs.YtamhkdlcoghdbaaGreatDoor.PCls
open Go.RowKit Go.Shelf Go.Proofs.YtamhkdlcoghdbaaGreatDoorW.PrintWords Go.Proofs.YtamhkdlcoghdbaaGreatDoorW.PrintLast Go.Proofs.YtamhkdlcoghdbaaGreatDoorW.PrintMore
set_option linter.unusedVariables false
set_option linter.unusedSimpArgs false
/-- a row of parts that is whole -/
theorem row_whole {W : World} {base : Nat} {P : Nat → Prop} {U : Value} {l : List PT} {us : List Value} (h : W.ownsRow base 155 1 U l.length us) (hp : PsIn W P l us) (hU : ∀ k, U.ownBlock = some k → P k) :
  ∃ (A : Option Addr) (c : Nat) (vs : Nat → Value), U = .slice A l.length c ∧ l.length ≤ c ∧ (∀ j, j < l.length → ∃ g, A = some ⟨g, 0, none⟩ ∧ P g ∧ W.cell? ⟨g, j, none⟩ = some (vs j)) ∧ ∀ j p, l[j]? = some p → PIn W P p (vs j) := by
 have hget : ∀ (j : Nat) (p : PT), l[j]? = some p → PIn W P p (us.getD j undef) := fun j p hj => by
  obtain ⟨v, e, hv⟩ := hp.2 j p hj
  rw [List.getD_eq_getElem?_getD, e]
  exact hv
 rcases h.2 with ⟨rfl, h0⟩ | ⟨g, cap, cur, rfl, hb, hh, hc, hm, hs, htk⟩
 ·exact ⟨none, 0, fun j => us.getD j undef, by rw [h0], by omega, fun j hj => by omega, hget⟩
 ·refine ⟨_, cap, fun j => us.getD j undef, rfl, hc, fun j hj => ⟨g, rfl, hU g rfl, ?_⟩, hget⟩
  have hjl : j < us.length := by rw [hp.1]; exact hj
  have e : us[j]? = some (us.getD j undef) := by rw [List.getD_eq_getElem?_getD, List.getElem?_eq_getElem hjl]; rfl
  rw [← htk, List.getElem?_take] at e
  split at e
  ·rw [← htk]
   exact lk_cell hh (by simpa using e)
  ·rw [Nat.mul_one] at *; omega
/-- an or: the branch is whole; a new one -/
theorem alt_mem {W X W4 : World} {base : Nat} {τ : Nat → Nat} {B : Nat} {m : MS} {a : Nat} {al : List Nat} {O : Value} {mb : Nat} (h : MkAt W base τ B m (a :: al) O mb) {V U : Value} {b : Nat} {ds us : List Value} (ht : GAt W base τ m.below.length m.top a V U b ds us) (hbase : base ≤ W.heap.size)
  {b' : Nat} {V' : Value} (hX : Below W.heap.size W X) (hb' : X.heap[b']? = some (.cells #[.slice none 0 0] 151 (0, 0))) (hlb' : W.heap.size ≤ b') (hg : X.grownBy W4 V.ownBlock) (hown : W4.ownsRow base 155 1 V' (m.top.done.length + 1 + 1) (ds ++ [brV b] ++ [brV b'])) (hat : V'.ownBlock = V.ownBlock ∨ V'.ownBlock = some X.heap.size) :
  ∃ τ', MkAt (W4.setCell ⟨a, 2, none⟩ V') base τ' B { m with top := ⟨m.top.n, m.top.pl, m.top.all, []⟩ } (a :: al) O mb ∧ MkStp W (W4.setCell ⟨a, 2, none⟩ V') base τ τ' := by
 have la := blk_lt ht.ha
 have lb := blk_lt ht.hb
 have lb' := blk_lt hb'
 have hsz := hX.size
 have hsg := hg.size
 have tgi : ∀ i j, tg m.below.length i = tg m.below.length j → i = j := fun i j e => by simp only [tg] at e; omega
 have hfr : ∀ k, k < W.heap.size → k ≠ a → some k ≠ V.ownBlock → (W4.setCell ⟨a, 2, none⟩ V').heap[k]? = W.heap[k]? := fun k hk hka hkV => (Below.heap_setCell W4 ⟨a, 2, none⟩ V' k hka).trans ((hg.block k (by omega) hkV).trans (hX.block k hk))
 obtain ⟨τ', hτ⟩ : ∃ τ' : Nat → Nat, τ' = fun k => if V'.ownBlock = some k then tg m.below.length 2 else if k = b' then tg m.below.length 1 else if τ k = tg m.below.length 1 ∨ τ k = tg m.below.length 3 then 0 else τ k := ⟨_, rfl⟩
 have hτs : ∀ k, k < W.heap.size → τ' k = if τ k = tg m.below.length 1 ∨ τ k = tg m.below.length 3 then 0 else τ k := fun k hk => by
  rw [hτ]
  simp only
  split
  ·rename_i e
   rcases hat with h1 | h1
   ·rw [h1] at e
    rw [ht.tV k e, if_neg]
    intro h2
    rcases h2 with h2 | h2 <;> have := tgi _ _ h2 <;> omega
   ·rw [h1] at e; cases e; omega
  ·rw [if_neg (by omega)]
 have hτk : ∀ k j, k < W.heap.size → τ k = tg m.below.length j → j ≠ 1 → j ≠ 3 → τ' k = τ k := fun k j hk h1 h2 h3 => by
  rw [hτs k hk, if_neg]
  intro h4
  rw [h1] at h4
  rcases h4 with h4 | h4 <;> have := tgi _ _ h4 <;> omega
 have hVa : V.ownBlock ≠ some a := fun e => by have := ht.tV a e; rw [ht.ta] at this; have := tgi _ _ this; omega
 have hV'a : V'.ownBlock ≠ some a := fun e => by
  rcases hat with h1 | h1
  ·rw [h1] at e; exact hVa e
  ·rw [h1] at e; cases e; omega
 have hb'V : some b' ≠ V.ownBlock := fun e => by have := (ownLt ht.hV b' e.symm).2; omega
 have hb'V' : V'.ownBlock ≠ some b' := fun e => by
  rcases hat with h1 | h1
  ·rw [h1] at e; exact hb'V e.symm
  ·rw [h1] at e; cases e; omega
 have ha4 : W4.heap[a]? = some (.cells #[.int .i64 m.top.n, .int .i64 m.top.pl, V] 98 (0, 0)) := (hg.block a (by omega) (fun e => hVa e.symm)).trans ((hX.block a la).trans ht.ha)
 have hTop : TopOnly W (W4.setCell ⟨a, 2, none⟩ V') base τ τ' m.below.length := by
  refine ⟨hg.os.trans hX.os, hg.tape.trans hX.tape, hg.output.trans hX.output, by simp [World.setCell]; omega, fun k hk hkb => hfr k hk (by have := ht.la; omega) (fun e => by have := (ownLt ht.hV k e.symm).1; omega), fun k h1 h2 h3 => ⟨hfr k h2 (fun e => ?_) (fun e => ?_), ?_⟩⟩
  ·subst e; rw [ht.ta] at h3; simp only [tg] at h3; omega
  ·rw [ht.tV k e.symm] at h3; simp only [tg] at h3; omega
  ·rw [hτs k h2, if_neg]
   intro h4
   simp only [tg] at h4
   omega
 have hz : ∀ k, Fz W base τ k → (W4.setCell ⟨a, 2, none⟩ V').heap[k]? = W.heap[k]? := fun k hk => (hTop.keep k hk.1 hk.2.1 (.inl (by rw [hk.2.2]; decide))).1
 have hz2 : ∀ k, Fz W base τ k → Fz (W4.setCell ⟨a, 2, none⟩ V') base τ' k := fun k hk => ⟨hk.1, Nat.lt_of_lt_of_le hk.2.1 hTop.size, ((hTop.keep k hk.1 hk.2.1 (.inl (by rw [hk.2.2]; decide))).2).trans hk.2.2⟩
 -- the branch that is whole now
 have hbk : (W4.setCell ⟨a, 2, none⟩ V').heap[b]? = W.heap[b]? := hfr b lb (fun e => by have h1 := ht.tb; rw [e, ht.ta] at h1; have := tgi _ _ h1; omega) (fun e => by have h1 := ht.tV b e.symm; rw [ht.tb] at h1; have := tgi _ _ h1; omega)
 have hUk : ∀ k, U.ownBlock = some k → (W4.setCell ⟨a, 2, none⟩ V').heap[k]? = W.heap[k]? := fun k hk => hfr k (ownLt ht.hU k hk).2 (fun e => by have h1 := ht.tU k hk; rw [e, ht.ta] at h1; have := tgi _ _ h1; omega) (fun e => by have h1 := ht.tV k e.symm; rw [ht.tU k hk] at h1; have := tgi _ _ h1; omega)
 have hPb : Fz (W4.setCell ⟨a, 2, none⟩ V') base τ' b := ⟨ht.lb, Nat.lt_of_lt_of_le lb hTop.size, by rw [hτs b lb, if_pos (.inl ht.tb)]⟩
 have hPU : ∀ k, U.ownBlock = some k → Fz (W4.setCell ⟨a, 2, none⟩ V') base τ' k := fun k hk => ⟨(ownLt ht.hU k hk).1, Nat.lt_of_lt_of_le (ownLt ht.hU k hk).2 hTop.size, by rw [hτs k (ownLt ht.hU k hk).2, if_pos (.inr (ht.tU k hk))]⟩
 obtain ⟨A, c, vs, hUe, hc, hrow, hps⟩ := row_whole (ownMove ht.hU hUk) (ht.pu.move hz hz2) hPU
 have hbr : PIn (W4.setCell ⟨a, 2, none⟩ V') (Fz (W4.setCell ⟨a, 2, none⟩ V') base τ') (.branch m.top.cur) (brV b) :=
  .branch _ b A c vs hPb (by rw [← hUe]; exact lk_cell (i := 0) (hbk.trans ht.hb) rfl) hc hrow hps
 have hV5 : (W4.setCell ⟨a, 2, none⟩ V').ownsRow base 155 1 V' ((m.top.done ++ [PT.branch m.top.cur]).length + 1) (ds ++ [brV b] ++ [brV b']) := by
  rw [List.length_append, List.length_singleton]
  exact ownMove hown (fun k hk => Below.heap_setCell W4 ⟨a, 2, none⟩ V' k (fun e => hV'a (by rw [hk]; exact congrArg some e)))
 have hb5 : (W4.setCell ⟨a, 2, none⟩ V').heap[b']? = some (.cells #[.slice none 0 0] 151 (0, 0)) := (Below.heap_setCell W4 ⟨a, 2, none⟩ V' b' (by simp only; omega)).trans ((hg.block b' lb' hb'V).trans hb')
 have htb' : τ' b' = tg m.below.length 1 := by
  rw [hτ]
  show (if V'.ownBlock = some b' then _ else if b' = b' then _ else _) = _
  rw [if_neg hb'V', if_pos rfl]
 obtain ⟨h1, h2⟩ := h.retop hTop ⟨m.top.n, m.top.pl, m.top.all, []⟩ ⟨V', .slice none 0 0, b', ds ++ [brV b], [], (hτk a 0 la ht.ta (by decide) (by decide)).trans ht.ta, htb', fun k hk => by rw [hτ]; simp only; rw [if_pos hk], fun k hk => (by cases hk), ht.la, by omega, set_blk ha4 2 V', hV5, hb5, ⟨rfl, .inl ⟨rfl, rfl⟩⟩, (ht.pd.move hz hz2).snoc hbr, PsIn.nil _ _⟩
 exact ⟨τ', h1, h2⟩
/-- a group begun: its block, its branch, the row of its branches; the row of open groups has been appended to -/
structure Begun (W w' : World) (base B : Nat) (n pl many : Int) (mp O O' : Value) (cnt : Nat) (xs : List Value) : Prop where
 hB : w'.heap[B]? = some (.cells #[O', .int .i64 many, mp] 91 (0, 0))
 ha : w'.heap[W.heap.size]? = some (.cells #[.int .i64 n, .int .i64 pl, .slice (some ⟨W.heap.size + 2, 0, none⟩) 1 1] 98 (0, 0))
 hb : w'.heap[W.heap.size + 1]? = some (.cells #[.slice none 0 0] 151 (0, 0))
 hr : w'.heap[W.heap.size + 2]? = some (.cells #[brV (W.heap.size + 1)] 155 (0, 0))
 hO : w'.ownsRow base 99 1 O' (cnt + 1) (xs ++ [grP W.heap.size])
 hat : O'.ownBlock = O.ownBlock ∨ ∃ k, O'.ownBlock = some k ∧ W.heap.size + 3 ≤ k
 keep : ∀ k, k < W.heap.size → k ≠ B → some k ≠ O.ownBlock → w'.heap[k]? = W.heap[k]?
 os : w'.os = W.os
 tape : w'.tape = W.tape
 output : w'.output = W.output
theorem Begun.group {W w' : World} {base B : Nat} {n pl many : Int} {mp O O' : Value} {cnt : Nat} {xs : List Value} (h : Begun W w' base B n pl many mp O O' cnt xs) (hb : base ≤ W.heap.size) (τ' : Nat → Nat) (d : Nat) (t0 : τ' W.heap.size = tg d 0) (t1 : τ' (W.heap.size + 1) = tg d 1) (t2 : τ' (W.heap.size + 2) = tg d 2) :
  GAt w' base τ' d ⟨n, pl, [], []⟩ W.heap.size (.slice (some ⟨W.heap.size + 2, 0, none⟩) 1 1) (.slice none 0 0) (W.heap.size + 1) [] [] :=
 ⟨t0, t1, fun k hk => (by cases hk; exact t2), fun k hk => (by cases hk), hb, by omega, h.ha, ⟨rfl, .inr ⟨_, 1, _, rfl, by omega, h.hr, Nat.le_refl 1, by decide, rfl, rfl⟩⟩, h.hb, ⟨rfl, .inl ⟨rfl, rfl⟩⟩, PsIn.nil _ _, PsIn.nil _ _⟩
theorem open_mem {W w' : World} {base : Nat} {τ : Nat → Nat} {B : Nat} {m : MS} {al : List Nat} {O O' : Value} {mb : Nat} (h : MkAt W base τ B m al O mb) (hbase : base ≤ W.heap.size) {n pl : Int} (hg : Begun W w' base B n pl m.many (.map (some mb)) O O' (m.below.length + 1) (al.reverse.map grP)) :
  ∃ τ', MkAt w' base τ' B ⟨⟨n, pl, [], []⟩, m.top :: m.below, m.many, m.ended⟩ (W.heap.size :: al) O' mb ∧ MkStp W w' base τ τ' := by
 obtain ⟨_, D, hown, _⟩ := h.hm
 have lB := blk_lt h.hB
 have lm := hown.lt
 have lO : ∀ k, O.ownBlock = some k → base ≤ k ∧ k < W.heap.size := fun k hk => ownLt h.hO k hk
 have hsz : W.heap.size + 2 < w'.heap.size := blk_lt hg.hr
 obtain ⟨τ', hτ⟩ : ∃ τ' : Nat → Nat, τ' = fun k => if O'.ownBlock = some k then 2 else if W.heap.size ≤ k then tg (m.below.length + 1) (k - W.heap.size) else τ k := ⟨_, rfl⟩
 have hτs : ∀ k, k < W.heap.size → τ' k = τ k := fun k hk => by
  rw [hτ]
  simp only
  split
  ·rename_i e
   rcases hg.hat with h1 | ⟨k', h1, h2⟩
   ·rw [h1] at e; exact (h.tO k e).symm
   ·rw [h1] at e; cases e; omega
  ·rw [if_neg (by omega)]
 have hτn : ∀ j, j < 3 → τ' (W.heap.size + j) = tg (m.below.length + 1) j := fun j hj => by
  rw [hτ]
  simp only
  rw [if_neg (fun e => ?_), if_pos (by omega), Nat.add_sub_cancel_left]
  rcases hg.hat with h1 | ⟨k', h1, h2⟩
  ·rw [h1] at e; have := (lO _ e).2; omega
  ·rw [h1] at e; cases e; omega
 have hfr : ∀ k, k < W.heap.size → τ k ≠ 1 → τ k ≠ 2 → w'.heap[k]? = W.heap[k]? := fun k hk h1 h2 => hg.keep k hk (fun e => h1 (by rw [e]; exact h.tB)) (fun e => h2 (h.tO k e.symm))
 refine ⟨τ', ⟨(hτs B lB).trans h.tB, h.lB, fun k hk => by rw [hτ]; simp only; rw [if_pos hk], (hτs mb lm).trans h.tm, h.lm, hg.hB, ?_, h.hm.move (hfr mb lm (by rw [h.tm]; decide) (by rw [h.tm]; decide)), ⟨_, _, _, _, _, hg.group hbase τ' _ (hτn 0 (by decide)) (hτn 1 (by decide)) (hτn 2 (by decide))⟩, h.gs.keep (by omega) (fun k h1 h2 h3 => ⟨hfr k h2 (by omega) (by omega), hτs k h2⟩)⟩, ⟨hg.os, hg.tape, hg.output, by omega, fun k hk hb => ?_, fun k h1 hk hz => (hτs k hk).trans hz⟩⟩
 ·have e := hg.hO
  simp only [List.reverse_cons, List.map_append, List.map_cons, List.map_nil, List.length_cons]
  exact e
 ·rcases Nat.lt_or_ge k base with hlb | hlb
  ·exact hg.keep k hk (by have := h.lB; omega) (fun e => by have := (lO k e.symm).1; omega)
  ·have := hb.resolve_left (by omega)
   exact hfr k hk (by omega) (by omega)
/-- the first group: of no number -/
theorem start_mem {W w' : World} {base B mb : Nat} {O' : Value} (hbase : base ≤ W.heap.size) (lB : base ≤ B) (lm : base ≤ mb) (hBm : B ≠ mb) (hB : B < W.heap.size) (he : EndAt W mb []) (hg : Begun W w' base B 0 0 0 (.map (some mb)) (.slice none 0 0) O' 0 []) :
  ∃ τ', MkAt w' base τ' B MS.start [W.heap.size] O' mb ∧ ∀ k, k < W.heap.size → k ≠ B → k ≠ mb → τ' k = 0 := by
 obtain ⟨_, D, hown, _⟩ := id he
 have lm2 := hown.lt
 obtain ⟨τ', hτ⟩ : ∃ τ' : Nat → Nat, τ' = fun k => if O'.ownBlock = some k then 2 else if W.heap.size ≤ k then tg 0 (k - W.heap.size) else if k = B then 1 else if k = mb then 3 else 0 := ⟨_, rfl⟩
 have hO : ∀ k, O'.ownBlock = some k → W.heap.size + 3 ≤ k := fun k hk => by
  rcases hg.hat with h1 | ⟨k', h1, h2⟩
  ·rw [h1] at hk; cases hk
  ·rw [h1] at hk; cases hk; exact h2
 have hτn : ∀ j, j < 3 → τ' (W.heap.size + j) = tg 0 j := fun j hj => by
  rw [hτ]
  simp only
  rw [if_neg (fun e => by have := hO _ e; omega), if_pos (by omega), Nat.add_sub_cancel_left]
 refine ⟨τ', ⟨?_, lB, fun k hk => by rw [hτ]; simp only; rw [if_pos hk], ?_, lm, hg.hB, hg.hO, he.move (hg.keep mb lm2 (fun e => hBm e.symm) (by simp [Value.ownBlock])), ⟨_, _, _, _, _, hg.group hbase τ' 0 (hτn 0 (by decide)) (hτn 1 (by decide)) (hτn 2 (by decide))⟩, trivial⟩, fun k hk h1 h2 => ?_⟩
 ·rw [hτ]; simp only; rw [if_neg (fun e => by have := hO _ e; omega), if_neg (by omega), if_pos trivial]
 ·rw [hτ]; simp only; rw [if_neg (fun e => by have := hO _ e; omega), if_neg (by omega), if_neg (fun e => hBm e.symm), if_pos trivial]
 ·rw [hτ]; simp only; rw [if_neg (fun e => by have := hO _ e; omega), if_neg (by omega), if_neg h1, if_neg h2]
/-- a row without its last -/
theorem own_pop {W : World} {base t n c : Nat} {A : Option Addr} {xs : List Value} (h : W.ownsRow base t 1 (.slice A (n + 1) c) (n + 1) xs) : W.ownsRow base t 1 (.slice A n c) n (xs.take n) := by
 refine ⟨by rw [List.length_take, h.1]; omega, ?_⟩
 rcases h.2 with ⟨e, _⟩ | ⟨g, cap, cur, e, hb, hh, hc, hm, hs, htk⟩
 ·cases e
 ·simp only [Value.slice.injEq] at e
  obtain ⟨rfl, _, rfl⟩ := e
  refine .inr ⟨g, c, cur, rfl, hb, hh, by omega, hm, hs, ?_⟩
  rw [← htk, List.take_take]
  congr 1
  omega
/-- a close: the innermost group is whole; the row of open groups is shorter, the map has been written -/
theorem pop_mem {W W1 W2 : World} {base : Nat} {τ : Nat → Nat} {B : Nat} {top g' : GS} {b' : List GS} {many : Int} {ended : List Int} {a : Nat} {al : List Nat} {A : Option Addr} {c mb : Nat} (hbase : base ≤ W.heap.size) (h : MkAt W base τ B ⟨top, g' :: b', many, ended⟩ (a :: al) (.slice A (b'.length + 1 + 1) c) mb)
  (hX : Below W.heap.size W W1) (he : EndAt W2 mb (top.n :: ended)) (hg : (W1.setCell ⟨B, 0, none⟩ (.slice A (b'.length + 1) c)).grownBy W2 (some mb)) :
  ∃ τ', MkAt W2 base τ' B ⟨g', b', many, top.n :: ended⟩ al (.slice A (b'.length + 1) c) mb ∧ MkStp W W2 base τ τ' ∧ PIn W2 (Fz W2 base τ') top.whole (grV a) := by
 obtain ⟨⟨V, U, b, ds, us, ht⟩, hgs⟩ := h.gs
 obtain ⟨n0, D, hown, _⟩ := h.hm
 have la := blk_lt ht.ha
 have lb := blk_lt ht.hb
 have lB := blk_lt h.hB
 have lm := hown.lt
 have hsz := hX.size
 have hsg : W1.heap.size ≤ W2.heap.size := by have := hg.size; simpa [World.setCell] using this
 have hd : (g' :: b').length = b'.length + 1 := rfl
 have hfr : ∀ k, k < W.heap.size → k ≠ B → k ≠ mb → W2.heap[k]? = W.heap[k]? := fun k hk h1 h2 => (hg.block k (by simp [World.setCell]; omega) (fun e => h2 (by simpa using e))).trans ((Below.heap_setCell W1 ⟨B, 0, none⟩ _ k h1).trans (hX.block k hk))
 have hBm : B ≠ mb := fun e => by have h1 := h.tB; rw [e, h.tm] at h1; omega
 have hB1 : W1.heap[B]? = some (.cells #[.slice A (b'.length + 1 + 1) c, .int .i64 many, .map (some mb)] 91 (0, 0)) := (hX.block B lB).trans h.hB
 have hB2 : W2.heap[B]? = some (.cells #[.slice A (b'.length + 1) c, .int .i64 many, .map (some mb)] 91 (0, 0)) := (hg.block B (by simp [World.setCell]; omega) (fun e => hBm (by simpa using e))).trans (set_blk hB1 0 _)
 obtain ⟨τ', hτ⟩ : ∃ τ' : Nat → Nat, τ' = fun k => if tg (b'.length + 1) 0 ≤ τ k then 0 else τ k := ⟨_, rfl⟩
 have hτs : ∀ k, τ k < tg (b'.length + 1) 0 → τ' k = τ k := fun k hk => by rw [hτ]; simp only; rw [if_neg (by omega)]
 have hτz : ∀ k j, τ k = tg (b'.length + 1) j → τ' k = 0 := fun k j hk => by rw [hτ]; simp only; rw [if_pos (by rw [hk]; simp only [tg]; omega)]
 have tl : ∀ x, x ≤ 3 → x < tg (b'.length + 1) 0 := fun x hx => by simp only [tg]; omega
 have hO : ∀ k, A.map Addr.block = some k → τ k = 2 := fun k hk => h.tO k (by cases A with | none => cases hk | some ad => simpa [Value.ownBlock] using hk)
 have hOb : ∀ k, (Value.slice A (b'.length + 1) c).ownBlock = some k → τ k = 2 ∧ base ≤ k ∧ k < W.heap.size := fun k hk => by
  cases A with
  | none => cases hk
  | some ad => exact ⟨h.tO k hk, ownLt h.hO k hk⟩
 have hfz : ∀ k, k < W.heap.size → τ k ≠ 1 → τ k ≠ 3 → W2.heap[k]? = W.heap[k]? := fun k hk h1 h3 => hfr k hk (fun e => h1 (by rw [e]; exact h.tB)) (fun e => h3 (by rw [e]; exact h.tm))
 have hz : ∀ k, Fz W base τ k → W2.heap[k]? = W.heap[k]? := fun k hk => hfz k hk.2.1 (by rw [hk.2.2]; decide) (by rw [hk.2.2]; decide)
 have hz2 : ∀ k, Fz W base τ k → Fz W2 base τ' k := fun k hk => ⟨hk.1, by have := hk.2.1; omega, (hτs k (by rw [hk.2.2]; exact tl 0 (by decide))).trans hk.2.2⟩
 have hgz : ∀ k j, k < W.heap.size → τ k = tg (b'.length + 1) j → W2.heap[k]? = W.heap[k]? := fun k j hk hj => hfz k hk (by rw [hj]; simp only [tg]; omega) (by rw [hj]; simp only [tg]; omega)
 have hFz : ∀ k j, base ≤ k → k < W.heap.size → τ k = tg (b'.length + 1) j → Fz W2 base τ' k := fun k j h1 h2 h3 => ⟨h1, by omega, hτz k j h3⟩
 refine ⟨τ', ⟨(hτs B (by rw [h.tB]; exact tl 1 (by decide))).trans h.tB, h.lB, fun k hk => (hτs k (by rw [(hOb k hk).1]; exact tl 2 (by decide))).trans (hOb k hk).1, (hτs mb (by rw [h.tm]; exact tl 3 (by decide))).trans h.tm, h.lm, hB2, ?_, he, hgs.keep (by omega) (fun k h1 h2 h3 => ⟨hfz k h2 (by omega) (by omega), hτs k ?_⟩)⟩, ⟨hg.os.trans hX.os, hg.tape.trans hX.tape, hg.output.trans hX.output, by omega, fun k hk hb => ?_, fun k h1 hk hz0 => (hτs k (by rw [hz0]; exact tl 0 (by decide))).trans hz0⟩, ?_⟩
 ·have h1 := own_pop h.hO
  have e : ((a :: al).reverse.map grP).take (b'.length + 1) = al.reverse.map grP := by
   have hl := hgs.length
   rw [List.reverse_cons, List.map_append, List.take_left' (by simp [hl])]
  rw [e] at h1
  exact ownMove h1 (fun k hk => hfz k (hOb k hk).2.2 (by rw [(hOb k hk).1]; decide) (by rw [(hOb k hk).1]; decide))
 ·simp only [tg, List.length_cons] at h3 ⊢; omega
 ·rcases Nat.lt_or_ge k base with hlb | hlb
  ·exact hfr k hk (by have := h.lB; omega) (by have := h.lm; omega)
  ·have := hb.resolve_left (by omega)
   exact hfz k hk (by omega) (by omega)
 ·-- the group that is whole now
  have hPU : ∀ k, U.ownBlock = some k → Fz W2 base τ' k := fun k hk => hFz k 3 (ownLt ht.hU k hk).1 (ownLt ht.hU k hk).2 (ht.tU k hk)
  have hPV : ∀ k, V.ownBlock = some k → Fz W2 base τ' k := fun k hk => hFz k 2 (ownLt ht.hV k hk).1 (ownLt ht.hV k hk).2 (ht.tV k hk)
  obtain ⟨A1, c1, vs1, hUe, hc1, hrow1, hps1⟩ := row_whole (ownMove ht.hU (fun k hk => hgz k 3 (ownLt ht.hU k hk).2 (ht.tU k hk))) (ht.pu.move hz hz2) hPU
  have hbr : PIn W2 (Fz W2 base τ') (.branch top.cur) (brV b) :=
   .branch _ b A1 c1 vs1 (hFz b 1 ht.lb lb ht.tb) (by rw [← hUe]; exact lk_cell (i := 0) ((hgz b 1 lb ht.tb).trans ht.hb) rfl) hc1 hrow1 hps1
  have hall := (ht.pd.move hz hz2).snoc hbr
  have hlen : (top.done ++ [PT.branch top.cur]).length = top.done.length + 1 := by simp
  obtain ⟨A2, c2, vs2, hVe, hc2, hrow2, hps2⟩ := row_whole (U := V) (by rw [hlen]; exact ownMove ht.hV (fun k hk => hgz k 2 (ownLt ht.hV k hk).2 (ht.tV k hk))) hall hPV
  have haw : W2.heap[a]? = some (.cells #[.int .i64 top.n, .int .i64 top.pl, V] 98 (0, 0)) := (hgz a 0 la ht.ta).trans ht.ha
  exact .group _ _ _ a (hFz a 0 ht.la la ht.ta) (lk_cell (i := 0) haw rfl) (lk_cell (i := 1) haw rfl) (.choice _ a A2 c2 vs2 (hFz a 0 ht.la la ht.ta) ((lk_cell (i := 2) haw rfl).trans (congrArg some hVe)) hc2 hrow2 hps2)
end Go.Proofs.YtamhkdlcoghdbaaGreatDoor.PCls
/- Out of Pg (wip/tools/prune2.py): the declarations alone that the texts of the trees name. -/
namespace Go.Proofs.YtamhkdlcoghdbaaGreatDoor.PCls
open Go.RowKit Go.Shelf Go.Proofs.YtamhkdlcoghdbaaGreatDoorW.PrintWords Go.Proofs.YtamhkdlcoghdbaaGreatDoorW.PrintLast Go.Proofs.YtamhkdlcoghdbaaGreatDoorW.PrintMore
set_option linter.unusedVariables false
set_option linter.unusedSimpArgs false
theorem info155 : (Tryz.prog.info? 155).map (fun i => (i.zero, i.size, i.bytes)) = some (some .nilIface, 1, 16) := by kernel_rfl
theorem info99 : (Tryz.prog.info? 99).map (fun i => (i.zero, i.size, i.bytes)) = some (some (.pointer none), 1, 8) := by kernel_rfl
set_option maxHeartbeats 4000000 in
set_option maxRecDepth 100000 in
theorem begin_calls (W : World) (base B : Nat) (n pl many : Int) (mp O : Value) (cnt : Nat) (xs : List Value) (hB : W.heap[B]? = some (.cells #[O, .int .i64 many, mp] 91 (0, 0))) (hO : W.ownsRow base 99 1 O cnt xs) (hbase : base ≤ W.heap.size) (hc : cnt < 1000000) (hOB : O.ownBlock ≠ some B) :
  Calls Tryz.prog 49 #[.pointer (some ⟨B, 0, none⟩), .int .i64 n, .int .i64 pl] W fun e w' => e = .returned (.tuple #[]) ∧ ∃ O', Begun W w' base B n pl many mp O O' cnt xs := by
 obtain ⟨i0, hi, hz0, hz1, hz2⟩ := info_parts info99
 obtain ⟨A, c, rfl, hcc⟩ := own_form hO
 have lB := blk_lt hB
 have c0 : W.cell? ⟨B, 0, none⟩ = some (.slice A cnt c) := lk_cell (i := 0) hB rfl
 have hf : ∀ o, W.frozen? ⟨B, o, none⟩ = false := fun o => by simp [World.frozen?, hB]
 obtain ⟨W3, hW3⟩ : ∃ X, X = ((W.alloc (.cells #[.int .i64 n, .int .i64 pl, .slice (some ⟨W.heap.size + 1 + 1, 0, none⟩) 1 1] 98)).alloc (.cells #[.slice none 0 0] 151)).alloc (.cells #[brV (W.heap.size + 1)] 155) := ⟨_, rfl⟩
 have b0 := (Below.refl W.heap.size W).alloc (Nat.le_refl _) (.cells #[.int .i64 n, .int .i64 pl, .slice (some ⟨W.heap.size + 1 + 1, 0, none⟩) 1 1] 98)
 have b1 := b0.alloc b0.size (.cells #[.slice none 0 0] 151)
 have b2 := b1.alloc b1.size (.cells #[brV (W.heap.size + 1)] 155)
 have z3 : W3.heap.size = W.heap.size + 3 := by rw [hW3]; simp
 have g0 : W3.heap[W.heap.size]? = some (.cells #[.int .i64 n, .int .i64 pl, .slice (some ⟨W.heap.size + 1 + 1, 0, none⟩) 1 1] 98 (0, 0)) := by
  rw [hW3]; exact (heap_alloc_old _ _ (by simp; omega)).trans ((heap_alloc_old _ _ (by simp)).trans (heap_alloc_new W _))
 have g1 : W3.heap[W.heap.size + 1]? = some (.cells #[.slice none 0 0] 151 (0, 0)) := by
  rw [hW3]; exact (heap_alloc_old _ _ (by simp)).trans (alloc_at (by simp))
 have g2 : W3.heap[W.heap.size + 2]? = some (.cells #[brV (W.heap.size + 1)] 155 (0, 0)) := by
  rw [hW3]; exact alloc_at (by simp)
 rw [← hW3] at b2
 have hO4 : (W3.alloc (.cells #[grP W.heap.size] 99)).ownsRow base 99 1 (.slice A cnt c) cnt xs := (ownMove hO (fun k hk => b2.block k (ownLt hO k hk).2)).alloc _
 have c3 : (((W.alloc (.cells #[.int .i64 n, .int .i64 pl, .slice (some ⟨W.heap.size + 1 + 1, 0, none⟩) 1 1] 98)).alloc (.cells #[.slice none 0 0] 151)).alloc (.cells #[.iface 150 (.pointer (some ⟨W.heap.size + 1, 0, none⟩))] 155)).cell? ⟨B, 0, none⟩ = some (.slice A cnt c) := by
  have h := (b2.cell (p := ⟨B, 0, none⟩) lB).trans c0
  rw [hW3] at h
  exact h
 obtain ⟨v', W4, hrun, hown, hgrow, hnil, hat⟩ := run_append_own_at (W3.alloc (.cells #[grP W.heap.size] 99)) base 89 89 99 i0 _ 1 8 Tryz.underlying89 hi hz0 hz1 hz2 rfl (by decide) _ cnt xs hO4 ⟨W.heap.size + 1 + 1 + 1, 0, none⟩ 1 1 [grP W.heap.size] rfl
  (fun j u hu => by
   match j, hu with
   | 0, hu => cases hu; exact lk_cell (i := 0) (alloc_at (by rw [z3])) rfl
   | j + 1, hu => simp at hu) (by intro u hu; simp at hu; subst hu; rfl) (by unfold maxLen; omega) (by omega) (by simp; omega)
 obtain ⟨A', c', rfl, hcc'⟩ := own_form hown
 have hV : ∀ k, (Value.slice A cnt c).ownBlock = some k → k < W.heap.size := fun k hk => (ownLt hO k hk).2
 have hsg := hgrow.size
 simp only [World.size_alloc] at hsg
 have hend : Begun W (W4.setCell ⟨B, 0, none⟩ (.slice A' (cnt + 1) c')) base B n pl many mp (.slice A cnt c) (.slice A' (cnt + 1) c') cnt xs := by
  have hk : ∀ k, k < W3.heap.size → some k ≠ (Value.slice A cnt c).ownBlock → W4.heap[k]? = W3.heap[k]? := fun k hk hn => (hgrow.block k (by simp; omega) hn).trans (heap_alloc_old _ _ hk)
  have hs : ∀ k, k ≠ B → (W4.setCell ⟨B, 0, none⟩ (.slice A' (cnt + 1) c')).heap[k]? = W4.heap[k]? := fun k hk => Below.heap_setCell W4 ⟨B, 0, none⟩ _ k hk
  have hnew : ∀ j, some (W.heap.size + j) ≠ (Value.slice A cnt c).ownBlock := fun j e => by have := hV _ e.symm; omega
  have hBV : some B ≠ (Value.slice A cnt c).ownBlock := fun e => hOB e.symm
  have hA'B : (Value.slice A' (cnt + 1) c').ownBlock ≠ some B := fun e => by
   rcases hat with h1 | h1
   ·rw [h1] at e; exact hOB e
   ·rw [h1] at e; simp only [World.size_alloc, Option.some.injEq] at e; omega
  refine ⟨set_blk ((hk B (by omega) hBV).trans ((b2.block B lB).trans hB)) 0 _, (hs _ (by omega)).trans ((hk _ (by omega) (hnew 0)).trans g0), (hs _ (by omega)).trans ((hk _ (by omega) (hnew 1)).trans g1), (hs _ (by omega)).trans ((hk _ (by omega) (hnew 2)).trans g2), ownMove hown (fun k hk => hs k (fun e => hA'B (by rw [hk, e]))), ?_, fun k h1 h2 h3 => (hs k h2).trans ((hk k (by omega) h3).trans (b2.block k h1)), hgrow.os.trans b2.os, hgrow.tape.trans b2.tape, hgrow.output.trans b2.output⟩
  rcases hat with h1 | h1
  ·exact .inl h1
  ·exact .inr ⟨_, h1, by simp only [World.size_alloc]; omega⟩
 have hB4 : B < W4.heap.size := by omega
 have hf4 : ∀ o, W4.frozen? ⟨B, o, none⟩ = false := fun o => by
  have e := (hgrow.block B (by simp; omega) (fun e => hOB e.symm)).trans ((heap_alloc_old _ _ (by omega)).trans ((b2.block B lB).trans hB))
  simp [World.frozen?, e]
 have c4 : W4.cell? ⟨B, 0, none⟩ = some (.slice A cnt c) := lk_cell (i := 0) ((hgrow.block B (by simp; omega) (fun e => hOB e.symm)).trans ((heap_alloc_old _ _ (by omega)).trans ((b2.block B lB).trans hB))) rfl
 rw [hW3] at hrun
 have HRUN := Lib.hid (show (Builtin.append_ #[89, 89] 89 #[.slice A cnt c, .slice (some ⟨W.heap.size + 1 + 1 + 1, 0, none⟩) 1 1]).run Tryz.prog ((((W.alloc (.cells #[.int .i64 n, .int .i64 pl, .slice (some ⟨W.heap.size + 1 + 1, 0, none⟩) 1 1] 98)).alloc (.cells #[.slice none 0 0] 151)).alloc (.cells #[.iface 150 (.pointer (some ⟨W.heap.size + 1, 0, none⟩))] 155)).alloc (.cells #[.pointer (some ⟨W.heap.size, 0, none⟩)] 99)) = .ok (.slice A' (cnt + 1) c') W4 from hrun)
 have HEND := Lib.hid hend
 clear hB hO hbase hOB b0 b1 b2 g0 g1 g2 hO4 hW3 z3 hrun hown hgrow hnil hat hend hV hi hz0 hz1 hz2 c0 hf
 go_enter Tryz.func49, Tryz.ntmps49
 go_wp2_with (at_builtin; refine Lib.wpList_append_run _ rfl _ _ _ _ rfl _ _ rfl rfl _ _ HRUN.out ?_)
 go_end0
 exact ⟨rfl, _, HEND.out⟩
end Go.Proofs.YtamhkdlcoghdbaaGreatDoor.PCls
/- Out of Ph (wip/tools/prune2.py): the declarations alone that the texts of the trees name. -/
namespace Go.Proofs.YtamhkdlcoghdbaaGreatDoor.PCls
open Go.RowKit Go.Shelf Go.Proofs.YtamhkdlcoghdbaaGreatDoorW.PrintWords Go.Proofs.YtamhkdlcoghdbaaGreatDoorW.PrintLast Go.Proofs.YtamhkdlcoghdbaaGreatDoorW.PrintMore
set_option linter.unusedVariables false
set_option linter.unusedSimpArgs false
/-- the last cell of a row -/
theorem own_last {W : World} {base t n : Nat} {V v : Value} {xs : List Value} (h : W.ownsRow base t 1 V (n + 1) (xs ++ [v])) : ∃ g c, V = .slice (some ⟨g, 0, none⟩) (n + 1) c ∧ n + 1 ≤ c ∧ base ≤ g ∧ g < W.heap.size ∧ W.cell? ⟨g, n, none⟩ = some v ∧ n + 1 ≤ 9223372036854775807 := by
  have hl := h.1
  simp only [List.length_append, List.length_singleton] at hl
  obtain ⟨A, c, rfl, hc⟩ := own_form h
  rcases h.2 with ⟨e, hz⟩ | ⟨g, cap, cur, e, _, _, _, hm, _⟩
  · omega
  · simp only [Value.slice.injEq] at e
    obtain ⟨rfl, _, rfl⟩ := e
    obtain ⟨cur, hcur, hb, htk, _, _⟩ := own_block h
    have e : (cur.toList.take ((n + 1) * 1))[n]? = some v := by
      rw [htk, List.getElem?_append_right (by omega), show n - xs.length = 0 by omega]; rfl
    rw [List.getElem?_take, if_pos (by omega)] at e
    refine ⟨g, c, rfl, hc, hb, blk_lt hcur, lk_cell hcur (by simpa using e), ?_⟩
    unfold maxLen at hm
    omega
set_option maxHeartbeats 4000000 in
set_option maxRecDepth 100000 in
theorem ptop_calls (W : World) (base : Nat) (τ : Nat → Nat) (B : Nat) (m : MS) (a : Nat) (al : List Nat) (O : Value) (mb : Nat) (h : MkAt W base τ B m (a :: al) O mb) :
    Calls Tryz.prog 52 #[.pointer (some ⟨B, 0, none⟩)] W fun e w' => e = .returned (.pointer (some ⟨a, 2, none⟩)) ∧ Below W.heap.size W w' := by
  have hO := h.hO
  rw [List.reverse_cons, List.map_append] at hO
  obtain ⟨g, c, rfl, hc, _, hg, k1, hb⟩ := own_last hO
  have k0 : W.cell? ⟨B, 0, none⟩ = some (.slice (some ⟨g, 0, none⟩) (m.below.length + 1) c) := lk_cell (i := 0) h.hB rfl
  have lB := blk_lt h.hB
  obtain ⟨L, hL⟩ : ∃ L, L = m.below.length := ⟨_, rfl⟩
  obtain ⟨N, hN⟩ : ∃ N, N = L + 1 := ⟨_, rfl⟩
  rw [← hL] at k0 k1 hb hc
  rw [← hN] at k0 hb hc
  have hv1 : wrap64 ((N : Int) - 1) = (L : Int) := (w64_in _ (by omega) (by omega)).trans (by omega)
  have i1 : (0 : Int) ≤ (L : Int) := by omega
  have i2 : (L : Int) < (N : Int) := by omega
  have i3 : L < N := by omega
  unfold grP at k1
  clear h hO hL hN hb
  go_enter Tryz.func52, Tryz.ntmps52
  go_wp2_with fail
  refine go_start (fun w' => Below W.heap.size W w') [] [.p 0, .p 1, .p 2, .t 3, .p 4, .p 5, .p 6, .t 7, .p 8, .p 9, .p 10, .t 11, .p 12, .p 13, .p 14] (by kernel_rfl) (by kernel_rfl) (fun c d v a w h => by cases d <;> exact h) ((Below.refl _ W).drew) (fun w1 hS1 => ?_)
  repeat first
  | refine go_p (v := ?_) (b := ?_) rfl (.inl ⟨by rfl, ?_⟩) ?_ ?_
    rotate_left 2
    · intro w'; go_simp; with_reducible rfl
    · simp only [Act.put, List.setIfInBounds_toArray, List.set_cons_zero, List.set_cons_succ, i64_w, i32_w, hv1]; rfl
  | refine go_t (v := ?_) (b := ?_) rfl (.inl ⟨by rfl, ?_⟩) ?_ ?_
    rotate_left 2
    · intro w' hS; have hc := Below.cells hS; go_simp; with_reducible rfl
    · simp only [Act.put, List.setIfInBounds_toArray, List.set_cons_zero, List.set_cons_succ, i64_w, i32_w, hv1]; rfl
  refine go_done ?_
  go_wp2_with fail
  go_ret
  exact ⟨rfl, hS1⟩
set_option maxHeartbeats 4000000 in
set_option maxRecDepth 100000 in
theorem plast_calls (W : World) (base : Nat) (τ : Nat → Nat) (d : Nat) (g : GS) (a : Nat) (V U : Value) (b : Nat) (ds us : List Value) (h : GAt W base τ d g a V U b ds us) :
    Calls Tryz.prog 106 #[.pointer (some ⟨a, 2, none⟩)] W fun e w' => e = .returned (.pointer (some ⟨b, 0, none⟩)) ∧ Below W.heap.size W w' := by
  have hta : ∀ w', (Instr.typeAssert (.iface 150 (.pointer (some ⟨b, 0, none⟩))) 155 150 true).run Tryz.prog w' = .ok (.tuple #[.pointer (some ⟨b, 0, none⟩), .bool true]) w' := fun w' => run_asserted2 150 155 _ _ w' Tryz.underlying150
  obtain ⟨r, c, hV, hc, _, hg, k1, hb⟩ := own_last h.hV
  have ha := h.ha
  rw [hV] at ha
  have k0 : W.cell? ⟨a, 2, none⟩ = some (.slice (some ⟨r, 0, none⟩) (g.done.length + 1) c) := lk_cell (i := 2) ha rfl
  have la := blk_lt h.ha
  obtain ⟨L, hL⟩ : ∃ L, L = g.done.length := ⟨_, rfl⟩
  obtain ⟨N, hN⟩ : ∃ N, N = L + 1 := ⟨_, rfl⟩
  rw [← hL] at k0 k1 hb hc
  rw [← hN] at k0 hb hc
  have hv1 : wrap64 ((N : Int) - 1) = (L : Int) := (w64_in _ (by omega) (by omega)).trans (by omega)
  have i1 : (0 : Int) ≤ (L : Int) := by omega
  have i2 : (L : Int) < (N : Int) := by omega
  have i3 : L < N := by omega
  unfold brV at k1
  clear h hV ha hL hN hb
  go_enter Tryz.func106, Tryz.ntmps106
  go_wp2_with fail
  refine go_start (fun w' => Below W.heap.size W w') [] [.p 0, .p 1, .p 2, .t 3, .p 4, .p 5, .p 6, .t 7, .p 8, .p 9, .p 10, .t 11, .p 12, .p 13, .p 14, .p 15, .p 16, .p 17] (by kernel_rfl) (by kernel_rfl) (fun c d v a w h => by cases d <;> exact h) ((Below.refl _ W).drew) (fun w1 hS1 => ?_)
  repeat first
  | refine go_p (v := ?_) (b := ?_) rfl (.inl ⟨by rfl, ?_⟩) ?_ ?_
    rotate_left 2
    · intro w'; go_simp; with_reducible rfl
    · simp only [Act.put, List.setIfInBounds_toArray, List.set_cons_zero, List.set_cons_succ, i64_w, i32_w, hv1]; rfl
  | refine go_t (v := ?_) (b := ?_) rfl (.inl ⟨by rfl, ?_⟩) ?_ ?_
    rotate_left 2
    · intro w' hS; have hc := Below.cells hS; go_simp; with_reducible rfl
    · simp only [Act.put, List.setIfInBounds_toArray, List.set_cons_zero, List.set_cons_succ, i64_w, i32_w, hv1]; rfl
  refine go_done ?_
  go_wp2_with fail
  go_ret
  exact ⟨rfl, hS1⟩
set_option maxHeartbeats 4000000 in
set_option maxRecDepth 100000 in
theorem pput_calls (W : World) (base : Nat) (τ : Nat → Nat) (B : Nat) (m : MS) (a : Nat) (al : List Nat) (O : Value) (mb : Nat) (h : MkAt W base τ B m (a :: al) O mb) (hbase : base ≤ W.heap.size) (hl : m.top.cur.length < 1000000) (p : PT) (ty : TypeId) (x : Value) (hp : PIn W (Fz W base τ) p (.iface ty x)) :
    Calls Tryz.prog 105 #[.pointer (some ⟨B, 0, none⟩), .iface ty x] W fun e w' => e = .returned (.tuple #[]) ∧ ∃ τ', MkAt w' base τ' B (m.put p) (a :: al) O mb ∧ MkStp W w' base τ τ' := by
  obtain ⟨i0, hi, hz0, hz1, hz2⟩ := info_parts info155
  obtain ⟨⟨V, U, b, ds, us, ht⟩, hgs⟩ := h.gs
  have HT := Lib.hid (ptop_calls W base τ B m a al O mb h)
  have HL := Lib.hid (fun (w : World) (hb : Below W.heap.size W w) => plast_calls w base τ _ _ _ _ _ _ _ _ (ht.keep hb.size (fun k _ hk _ => ⟨hb.block k hk, rfl⟩)))
  obtain ⟨A, c, rfl, hc⟩ := own_form ht.hU
  have HH := Lib.hid (And.intro h (And.intro hbase (And.intro hp ht)))
  have lb := blk_lt ht.hb
  have hbb := ht.hb
  have HBB := Lib.hid hbb
  clear h ht hgs hp hbase hbb
  go_enter Tryz.func105, Tryz.ntmps105
  go_wp2_with fail
  refine HT.out.mono ?_
  rintro e w1 ⟨rfl, hb1⟩
  have HL1 := Lib.hid (HL.out w1 hb1)
  have HB1 := Lib.hid hb1
  clear hb1 HT HL
  go_wp2_with fail
  refine HL1.out.mono ?_
  rintro e w2 ⟨rfl, hb2⟩
  have hb := Below.up HB1.out hb2
  have hbk := (hb.block b lb).trans HBB.out
  have c0 : w2.cell? ⟨b, 0, none⟩ = some (.slice A m.top.cur.length c) := lk_cell (i := 0) hbk rfl
  have lb2 := blk_lt hbk
  have hown2 : (w2.alloc (.cells #[.iface ty x] 155)).ownsRow base 155 1 (.slice A m.top.cur.length c) m.top.cur.length us := (ownMove HH.out.2.2.2.hU (fun k hk => hb.block k (ownLt HH.out.2.2.2.hU k hk).2)).alloc _
  obtain ⟨U', W4, hrun, hown, hgrow, hnil, hat⟩ := run_append_own_at (w2.alloc (.cells #[.iface ty x] 155)) base 94 94 155 i0 _ 1 16 Tryz.underlying94 hi hz0 hz1 hz2 rfl (by decide) _ _ us hown2 ⟨w2.heap.size, 0, none⟩ 1 1 [.iface ty x] rfl
    (cell_one_new _ _ _) (by intro u hu; simp at hu; subst hu; rfl) (by unfold maxLen; omega) (by omega) (by simp; have := HH.out.2.1; have := hb.size; omega)
  obtain ⟨A', c', rfl, hcc'⟩ := own_form hown
  have hX : Below W.heap.size W (w2.alloc (.cells #[.iface ty x] 155)) := hb.alloc hb.size _
  obtain ⟨τ', g1, g2⟩ := put_mem HH.out.1 HH.out.2.2.2 HH.out.2.1 HH.out.2.2.1 hX hgrow hown hat
  have HE := Lib.hid (And.intro g1 g2)
  have hbU : some b ≠ (Value.slice A m.top.cur.length c).ownBlock := fun e => by
    have h3 := HH.out.2.2.2.tU b e.symm
    have h4 := HH.out.2.2.2.tb
    simp only [tg] at h3 h4; omega
  have hb4 := (hgrow.block b (by simp; omega) hbU).trans ((heap_alloc_old _ _ lb2).trans hbk)
  have hf4 : ∀ o, W4.frozen? ⟨b, o, none⟩ = false := fun o => by simp [World.frozen?, hb4]
  have c4 : W4.cell? ⟨b, 0, none⟩ = some (.slice A m.top.cur.length c) := lk_cell (i := 0) hb4 rfl
  have c2 : (w2.alloc (.cells #[.iface ty x] 155)).cell? ⟨b, 0, none⟩ = some (.slice A m.top.cur.length c) := lk_cell (i := 0) ((heap_alloc_old _ _ lb2).trans hbk) rfl
  have HRUN := Lib.hid hrun
  generalize m.top.cur.length = N at *
  clear hrun hown hgrow hnil hat hown2 g1 g2 hb hbk hX hb2 hbU hb4 HL1
  go_wp2_with (at_builtin; refine Lib.wpList_append_run _ rfl _ _ _ _ rfl _ _ rfl rfl _ _ HRUN.out ?_)
  go_end0
  exact ⟨rfl, τ', HE.out⟩
end Go.Proofs.YtamhkdlcoghdbaaGreatDoor.PCls
