/- TreeJoins: the law. -/
import Derived.Test.YtamhkdlcoghdbaaTAltG
import Derived.Test.YtamhkdlcoghdbaaLPJoin
import Derived.Deep.DeepCutAuto
namespace Go.Proofs.Ytamhkdlcoghdbaa.PCls
open Go.RowKit Go.Shelf Go.Proofs.YtamhkdlcoghdbaaW.PrintWords Go.Proofs.YtamhkdlcoghdbaaW.PrintLast Go.Proofs.YtamhkdlcoghdbaaW.PrintMore
set_option linter.unusedVariables false
set_option linter.unusedSimpArgs false
attribute [local go_sem] Oper.semAt_some

/-- a tree that lies in a block of its own -/
def HeldT (W : World) (B : Nat) (t : NT) : Prop := ∃ cs : List Value, W.heap[B]? = some (.cells cs.toArray 44 (0, 0)) ∧ NIn W (· < W.heap.size) t cs
theorem HeldT.below {A B : World} {b : Nat} {t : NT} (h : HeldT A b t) (hb : Below A.heap.size A B) : HeldT B b t := by
  obtain ⟨cs, h1, h2⟩ := h
  exact ⟨cs, (hb.block b (Array.getElem?_eq_some_iff.1 h1).1).trans h1, (h2.keep hb).mono (fun b hb' => Nat.lt_of_lt_of_le hb' hb.size)⟩
theorem HeldT.open {W : World} {B : Nat} {t : NT} (h : HeldT W B t) : ∃ v0 v1 v2 v3 v4 v5 : Value, W.heap[B]? = some (.cells #[v0, v1, v2, v3, v4, v5] 44 (0, 0)) ∧ NIn W (· < W.heap.size) t [v0, v1, v2, v3, v4, v5] := by
  obtain ⟨cs, h1, h2⟩ := h
  match cs, h2.len with
  | [v0, v1, v2, v3, v4, v5], _ => exact ⟨v0, v1, v2, v3, v4, v5, h1, h2⟩
/-- a new block for a tree -/
theorem HeldT.new {W : World} {t : NT} {v0 v1 v2 v3 v4 v5 : Value} (h : NIn W (· < W.heap.size) t [v0, v1, v2, v3, v4, v5]) : HeldT (W.alloc (.cells #[v0, v1, v2, v3, v4, v5] 44)) W.heap.size t :=
  ⟨[v0, v1, v2, v3, v4, v5], World.alloc_heap_new W _, (h.move (fun b hb => Below.heap_alloc _ _ _ hb)).mono (fun b hb => by simp; omega)⟩
theorem HeldT.put {W : World} {B : Nat} {t : NT} {v0 v1 v2 v3 v4 v5 : Value} {cur : Array Value} (h : NIn W (fun b => b < W.heap.size ∧ b ≠ B) t [v0, v1, v2, v3, v4, v5]) (hB : W.heap[B]? = some (.cells cur 44 (0, 0))) (hs : cur.size = 6) :
    HeldT (put6 W B 0 v0 v1 v2 v3 v4 v5) B t := by
  refine ⟨[v0, v1, v2, v3, v4, v5], ?_, (h.move (fun b hb => put6_other _ _ _ _ _ _ _ _ _ b hb.2)).mono (fun b hb => by rw [put6_size]; exact hb.1)⟩
  have h6 : ∃ u0 u1 u2 u3 u4 u5, cur = #[u0, u1, u2, u3, u4, u5] := by
    obtain ⟨l⟩ := cur
    match l, hs with
    | [u0, u1, u2, u3, u4, u5], _ => exact ⟨u0, u1, u2, u3, u4, u5, rfl⟩
  obtain ⟨u0, u1, u2, u3, u4, u5, rfl⟩ := h6
  unfold put6
  exact set_row (set_row (set_row (set_row (set_row (set_row hB _ _) _ _) _ _) _ _) _ _) _ _
theorem six {W : World} {P : Nat → Prop} {t : NT} {cs : List Value} (h : NIn W P t cs) : ∃ (k m lo hi : Int) (ar ak : Option Addr) (lr cr lk ck : Nat), cs = [.int .i64 k, .int .i64 m, .int .i64 lo, .int .i64 hi, .slice ar lr cr, .slice ak lk ck] := by
  cases h; exact ⟨_, _, _, _, _, _, _, _, _, _, rfl⟩
theorem cat_of2 (W : World) (B : Nat) (t0 t1 : NT) (c0 c1 : List Value) (hB : W.heap[B]? = some (.cells (c0 ++ c1).toArray 44 (0, 0))) (h0 : NIn W (· < W.heap.size) t0 c0) (h1 : NIn W (· < W.heap.size) t1 c1) (hn : t0.nodes + t1.nodes < 274877906944) :
    Calls Try.prog 55 #[.slice (some ⟨B, 0, none⟩) 2 2] W fun e w' => ∃ (k m lo hi : Int) (ar ak : Option Addr) (lr cr lk ck : Nat), e = .returned (.agg #[.int .i64 k, .int .i64 m, .int .i64 lo, .int .i64 hi, .slice ar lr cr, .slice ak lk ck]) ∧ NIn w' (fun b => W.heap.size ≤ b ∧ b < w'.heap.size) (catT [t0, t1]) [.int .i64 k, .int .i64 m, .int .i64 lo, .int .i64 hi, .slice ar lr cr, .slice ak lk ck] ∧ Below W.heap.size W w' := by
  have hlt := (Array.getElem?_eq_some_iff.1 hB).1
  have h := cat_calls (some ⟨B, 0, none⟩) 2 2 [t0, t1] W rfl (by simp only [NT.nodesL]; omega) (fun j t ht => by
    obtain ⟨cs, hn, hc⟩ := args_at (P := (· < W.heap.size)) (l := [t0, t1]) (css := [c0, c1]) (by simpa using hB) rfl (fun j t cs g1 g2 => by
      match j with
      | 0 => simp only [List.getElem?_cons_zero, Option.some.injEq] at g1 g2; subst g1 g2; exact h0
      | 1 => simp only [List.getElem?_cons_succ, List.getElem?_cons_zero, Option.some.injEq] at g1 g2; subst g1 g2; exact h1
      | j + 2 => simp at g1) (fun c h => by simp at h; rcases h with h | h <;> (subst h; first | exact h0.len | exact h1.len)) j t ht
    exact ⟨_, cs, rfl, by simp only; omega, hn, hc⟩)
  refine h.mono ?_
  rintro e w' ⟨cs, rfl, hn, hb⟩
  obtain ⟨k, m, lo, hi, ar, ak, lr, cr, lk, ck, rfl⟩ := six hn
  exact ⟨k, m, lo, hi, ar, ak, lr, cr, lk, ck, rfl, hn, hb⟩
theorem cat_of3 (W : World) (B : Nat) (t0 t1 t2 : NT) (c0 c1 c2 : List Value) (hB : W.heap[B]? = some (.cells (c0 ++ c1 ++ c2).toArray 44 (0, 0))) (h0 : NIn W (· < W.heap.size) t0 c0) (h1 : NIn W (· < W.heap.size) t1 c1) (h2 : NIn W (· < W.heap.size) t2 c2) (hn : t0.nodes + t1.nodes + t2.nodes < 274877906944) :
    Calls Try.prog 55 #[.slice (some ⟨B, 0, none⟩) 3 3] W fun e w' => ∃ (k m lo hi : Int) (ar ak : Option Addr) (lr cr lk ck : Nat), e = .returned (.agg #[.int .i64 k, .int .i64 m, .int .i64 lo, .int .i64 hi, .slice ar lr cr, .slice ak lk ck]) ∧ NIn w' (fun b => W.heap.size ≤ b ∧ b < w'.heap.size) (catT [t0, t1, t2]) [.int .i64 k, .int .i64 m, .int .i64 lo, .int .i64 hi, .slice ar lr cr, .slice ak lk ck] ∧ Below W.heap.size W w' := by
  have hlt := (Array.getElem?_eq_some_iff.1 hB).1
  have h := cat_calls (some ⟨B, 0, none⟩) 3 3 [t0, t1, t2] W rfl (by simp only [NT.nodesL]; omega) (fun j t ht => by
    obtain ⟨cs, hn, hc⟩ := args_at (P := (· < W.heap.size)) (l := [t0, t1, t2]) (css := [c0, c1, c2]) (by simpa using hB) rfl (fun j t cs g1 g2 => by
      match j with
      | 0 => simp only [List.getElem?_cons_zero, Option.some.injEq] at g1 g2; subst g1 g2; exact h0
      | 1 => simp only [List.getElem?_cons_succ, List.getElem?_cons_zero, Option.some.injEq] at g1 g2; subst g1 g2; exact h1
      | 2 => simp only [List.getElem?_cons_succ, List.getElem?_cons_zero, Option.some.injEq] at g1 g2; subst g1 g2; exact h2
      | j + 3 => simp at g1) (fun c h => by simp at h; rcases h with h | h | h <;> (subst h; first | exact h0.len | exact h1.len | exact h2.len)) j t ht
    exact ⟨_, cs, rfl, by simp only; omega, hn, hc⟩)
  refine h.mono ?_
  rintro e w' ⟨cs, rfl, hn, hb⟩
  obtain ⟨k, m, lo, hi, ar, ak, lr, cr, lk, ck, rfl⟩ := six hn
  exact ⟨k, m, lo, hi, ar, ak, lr, cr, lk, ck, rfl, hn, hb⟩
theorem alt_of2 (W : World) (B : Nat) (t0 t1 : NT) (c0 c1 : List Value) (hB : W.heap[B]? = some (.cells (c0 ++ c1).toArray 44 (0, 0))) (h0 : NIn W (· < W.heap.size) t0 c0) (h1 : NIn W (· < W.heap.size) t1 c1) (hn : t0.nodes + t1.nodes < 274877906944) :
    Calls Try.prog 56 #[.slice (some ⟨B, 0, none⟩) 2 2] W fun e w' => ∃ (k m lo hi : Int) (ar ak : Option Addr) (lr cr lk ck : Nat), e = .returned (.agg #[.int .i64 k, .int .i64 m, .int .i64 lo, .int .i64 hi, .slice ar lr cr, .slice ak lk ck]) ∧ NIn w' (fun b => W.heap.size ≤ b ∧ b < w'.heap.size) (altT [t0, t1]) [.int .i64 k, .int .i64 m, .int .i64 lo, .int .i64 hi, .slice ar lr cr, .slice ak lk ck] ∧ Below W.heap.size W w' := by
  have hlt := (Array.getElem?_eq_some_iff.1 hB).1
  have h := alt_calls (some ⟨B, 0, none⟩) 2 2 [t0, t1] W rfl (by simp only [NT.nodesL]; omega) (fun j t ht => by
    obtain ⟨cs, hn, hc⟩ := args_at (P := (· < W.heap.size)) (l := [t0, t1]) (css := [c0, c1]) (by simpa using hB) rfl (fun j t cs g1 g2 => by
      match j with
      | 0 => simp only [List.getElem?_cons_zero, Option.some.injEq] at g1 g2; subst g1 g2; exact h0
      | 1 => simp only [List.getElem?_cons_succ, List.getElem?_cons_zero, Option.some.injEq] at g1 g2; subst g1 g2; exact h1
      | j + 2 => simp at g1) (fun c h => by simp at h; rcases h with h | h <;> (subst h; first | exact h0.len | exact h1.len)) j t ht
    exact ⟨_, cs, rfl, by simp only; omega, hn, hc⟩)
  refine h.mono ?_
  rintro e w' ⟨cs, rfl, hn, hb⟩
  obtain ⟨k, m, lo, hi, ar, ak, lr, cr, lk, ck, rfl⟩ := six hn
  exact ⟨k, m, lo, hi, ar, ak, lr, cr, lk, ck, rfl, hn, hb⟩
theorem alt_of3 (W : World) (B : Nat) (t0 t1 t2 : NT) (c0 c1 c2 : List Value) (hB : W.heap[B]? = some (.cells (c0 ++ c1 ++ c2).toArray 44 (0, 0))) (h0 : NIn W (· < W.heap.size) t0 c0) (h1 : NIn W (· < W.heap.size) t1 c1) (h2 : NIn W (· < W.heap.size) t2 c2) (hn : t0.nodes + t1.nodes + t2.nodes < 274877906944) :
    Calls Try.prog 56 #[.slice (some ⟨B, 0, none⟩) 3 3] W fun e w' => ∃ (k m lo hi : Int) (ar ak : Option Addr) (lr cr lk ck : Nat), e = .returned (.agg #[.int .i64 k, .int .i64 m, .int .i64 lo, .int .i64 hi, .slice ar lr cr, .slice ak lk ck]) ∧ NIn w' (fun b => W.heap.size ≤ b ∧ b < w'.heap.size) (altT [t0, t1, t2]) [.int .i64 k, .int .i64 m, .int .i64 lo, .int .i64 hi, .slice ar lr cr, .slice ak lk ck] ∧ Below W.heap.size W w' := by
  have hlt := (Array.getElem?_eq_some_iff.1 hB).1
  have h := alt_calls (some ⟨B, 0, none⟩) 3 3 [t0, t1, t2] W rfl (by simp only [NT.nodesL]; omega) (fun j t ht => by
    obtain ⟨cs, hn, hc⟩ := args_at (P := (· < W.heap.size)) (l := [t0, t1, t2]) (css := [c0, c1, c2]) (by simpa using hB) rfl (fun j t cs g1 g2 => by
      match j with
      | 0 => simp only [List.getElem?_cons_zero, Option.some.injEq] at g1 g2; subst g1 g2; exact h0
      | 1 => simp only [List.getElem?_cons_succ, List.getElem?_cons_zero, Option.some.injEq] at g1 g2; subst g1 g2; exact h1
      | 2 => simp only [List.getElem?_cons_succ, List.getElem?_cons_zero, Option.some.injEq] at g1 g2; subst g1 g2; exact h2
      | j + 3 => simp at g1) (fun c h => by simp at h; rcases h with h | h | h <;> (subst h; first | exact h0.len | exact h1.len | exact h2.len)) j t ht
    exact ⟨_, cs, rfl, by simp only; omega, hn, hc⟩)
  refine h.mono ?_
  rintro e w' ⟨cs, rfl, hn, hb⟩
  obtain ⟨k, m, lo, hi, ar, ak, lr, cr, lk, ck, rfl⟩ := six hn
  exact ⟨k, m, lo, hi, ar, ak, lr, cr, lk, ck, rfl, hn, hb⟩
/-- the three trees in their boxes -/
structure JS (w wr : World) (c0 c1 c2 : Array Value) : Prop where
  bel : Below w.heap.size w wr
  n0 : wr.heap[w.heap.size]? = some (.cells c0 44 (0, 0))
  n1 : wr.heap[w.heap.size + 1]? = some (.cells c1 44 (0, 0))
  n2 : wr.heap[w.heap.size + 2]? = some (.cells c2 44 (0, 0))
  sz : w.heap.size + 3 ≤ wr.heap.size
theorem JS.start (w : World) (c0 c1 c2 : Array Value) : JS w (((w.alloc (.cells c0 44)).alloc (.cells c1 44)).alloc (.cells c2 44)) c0 c1 c2 := by
  have hat : ∀ (A : World) (o : Obj) (b : Nat), b = A.heap.size → (A.alloc o).heap[b]? = some o := fun A o b h => by rw [h]; exact World.alloc_heap_new A o
  have hup : ∀ (A : World) (o x : Obj) (b : Nat), A.heap[b]? = some x → (A.alloc o).heap[b]? = some x := fun A o x b h => (Below.heap_alloc A o b (Array.getElem?_eq_some_iff.1 h).1).trans h
  exact ⟨(((Below.refl _ w).alloc (Nat.le_refl _) _).alloc (by simp) _).alloc (by simp; omega) _, hup _ _ _ _ (hup _ _ _ _ (hat _ _ _ rfl)), hup _ _ _ _ (hat _ _ _ (by simp)), hat _ _ _ (by simp), by simp⟩
theorem JS.below {w A B : World} {c0 c1 c2 : Array Value} (h : JS w A c0 c1 c2) (hb : Below A.heap.size A B) : JS w B c0 c1 c2 :=
  ⟨h.bel.trans (hb.mono h.bel.size), (hb.block _ (by have := h.sz; omega)).trans h.n0, (hb.block _ (by have := h.sz; omega)).trans h.n1, (hb.block _ (by have := h.sz; omega)).trans h.n2, Nat.le_trans h.sz hb.size⟩

theorem count_bd {q : Int} {t : NT} (h : q = countT t) : 0 ≤ q ∧ q ≤ 2001 := by rw [h]; unfold countT; omega

set_option maxHeartbeats 16000000 in
set_option maxRecDepth 100000 in
theorem joins_many (k0 m0 l0 hh0 k1 m1 l1 hh1 k2 m2 l2 hh2 : Int) (r0 r1 r2 : List S64) (s0 s1 s2 : List NT) (ar0 ak0 ar1 ak1 ar2 ak2 : Option Addr) (cr0 ck0 cr1 ck1 cr2 ck2 : Nat) (w : World) (g0 : NIn w (· < w.heap.size) (.mk k0 m0 l0 hh0 r0 s0) [.int .i64 k0, .int .i64 m0, .int .i64 l0, .int .i64 hh0, .slice ar0 r0.length cr0, .slice ak0 s0.length ck0]) (g1 : NIn w (· < w.heap.size) (.mk k1 m1 l1 hh1 r1 s1) [.int .i64 k1, .int .i64 m1, .int .i64 l1, .int .i64 hh1, .slice ar1 r1.length cr1, .slice ak1 s1.length ck1]) (g2 : NIn w (· < w.heap.size) (.mk k2 m2 l2 hh2 r2 s2) [.int .i64 k2, .int .i64 m2, .int .i64 l2, .int .i64 hh2, .slice ar2 r2.length cr2, .slice ak2 s2.length ck2]) (hn : (NT.nodes (.mk k0 m0 l0 hh0 r0 s0)) < 274877906944 ∧ (NT.nodes (.mk k1 m1 l1 hh1 r1 s1)) < 274877906944 ∧ (NT.nodes (.mk k2 m2 l2 hh2 r2 s2)) < 274877906944) (hm : 1900 < countT (.mk k0 m0 l0 hh0 r0 s0) + countT (.mk k1 m1 l1 hh1 r1 s1) + countT (.mk k2 m2 l2 hh2 r2 s2)) :
    Calls Try.prog 12 #[.agg #[.int .i64 k0, .int .i64 m0, .int .i64 l0, .int .i64 hh0, .slice ar0 r0.length cr0, .slice ak0 s0.length ck0], .agg #[.int .i64 k1, .int .i64 m1, .int .i64 l1, .int .i64 hh1, .slice ar1 r1.length cr1, .slice ak1 s1.length ck1], .agg #[.int .i64 k2, .int .i64 m2, .int .i64 l2, .int .i64 hh2, .slice ar2 r2.length cr2, .slice ak2 s2.length ck2]] w fun e w' => e = .returned (.bool true) ∧ Below w.heap.size w w' := by
  have G0 := Lib.hid g0
  have G1 := Lib.hid g1
  have G2 := Lib.hid g2
  clear g0 g1 g2
  obtain ⟨W3, hW3⟩ : ∃ W3, W3 = ((w.alloc (.cells #[.int .i64 k0, .int .i64 m0, .int .i64 l0, .int .i64 hh0, .slice ar0 r0.length cr0, .slice ak0 s0.length ck0] 44)).alloc (.cells #[.int .i64 k1, .int .i64 m1, .int .i64 l1, .int .i64 hh1, .slice ar1 r1.length cr1, .slice ak1 s1.length ck1] 44)).alloc (.cells #[.int .i64 k2, .int .i64 m2, .int .i64 l2, .int .i64 hh2, .slice ar2 r2.length cr2, .slice ak2 s2.length ck2] 44) := ⟨_, rfl⟩
  have HST := Lib.hid (show JS w W3 #[.int .i64 k0, .int .i64 m0, .int .i64 l0, .int .i64 hh0, .slice ar0 r0.length cr0, .slice ak0 s0.length ck0] #[.int .i64 k1, .int .i64 m1, .int .i64 l1, .int .i64 hh1, .slice ar1 r1.length cr1, .slice ak1 s1.length ck1] #[.int .i64 k2, .int .i64 m2, .int .i64 l2, .int .i64 hh2, .slice ar2 r2.length cr2, .slice ak2 s2.length ck2] by rw [hW3]; exact JS.start w _ _ _)
  have HW3 := Lib.hid hW3
  clear hW3
  have HNN := Lib.hid hn
  have HM := Lib.hid hm
  clear hn hm
  go_enter Try.func12, Try.ntmps12
  go_wp2_with fail
  rw [← HW3.out]
  refine (examples_calls _).mono ?_
  rintro e w4 ⟨rfl, hb4⟩
  have HS4 := Lib.hid (HST.out.below hb4)
  clear hb4
  go_upto_region 2 with (fail)
  obtain ⟨q0, hq0⟩ : ∃ q, q = countT (.mk k0 m0 l0 hh0 r0 s0) := ⟨_, rfl⟩
  obtain ⟨q1, hq1⟩ : ∃ q, q = countT (.mk k1 m1 l1 hh1 r1 s1) := ⟨_, rfl⟩
  obtain ⟨q2, hq2⟩ : ∃ q, q = countT (.mk k2 m2 l2 hh2 r2 s2) := ⟨_, rfl⟩
  have HQ := Lib.hid (And.intro hq0 (And.intro hq1 hq2))
  have e1 : IntKind.i64.wrap (q0 + q1) = q0 + q1 := IntWalk.i64_in _ (by have h0 := count_bd hq0; have h1 := count_bd hq1; omega)
  have e2 : IntKind.i64.wrap (q0 + q1 + q2) = q0 + q1 + q2 := IntWalk.i64_in _ (by have h0 := count_bd hq0; have h1 := count_bd hq1; have h2 := count_bd hq2; omega)
  clear hq0 hq1 hq2
  have HBa := Lib.hid (show Below w4.heap.size w4 w4.drew from (Below.refl _ w4).drew)
  refine start_ (n := 9) (S := fun w' => Below w4.heap.size w4 w') (ds := []) #[false, false, false, false, false, false, false, false, false] (by kernel_rfl) rfl rfl HBa.out (fun hHeld => ?_)
  refine with_self (fun HT_ => ?_)
  generalize w4.drew = w_d at HBa hHeld ⊢
  refine take_ (i := 0) (N := some 16) (v := ?_) (a' := ?_) #[true, false, false, false, false, false, false, false, false] rfl rfl (take_of HT_.out (by kernel_rfl)) (fun _ _ _ h => h) (Or.inl ⟨by rfl, ?_⟩) hHeld ?_ ?_
  rotate_left
  · intro w' hS
    have hz := (hS.block _ (by have := HS4.out.sz; omega)).trans HS4.out.n0
    have n0 := cell_heap (i := 0) hz rfl
    have n1 := cell_heap (i := 1) hz rfl
    have n2 := cell_heap (i := 2) hz rfl
    have n3 := cell_heap (i := 3) hz rfl
    have n4 := cell_heap (i := 4) hz rfl
    have n5 := cell_heap (i := 5) hz rfl
    clear hz
    clear hS
    go_simp
    with_reducible rfl
  rotate_left
  · simp only [Act.put, List.setIfInBounds_toArray, List.set_cons_zero, List.set_cons_succ, i64_w, i32_w]
    rfl
  refine take_ (i := 2) (N := some 18) (v := ?_) (a' := ?_) #[true, false, true, false, false, false, false, false, false] rfl rfl (take_of HT_.out (by kernel_rfl)) (fun _ _ _ h => h) (Or.inl ⟨by rfl, ?_⟩) hHeld ?_ ?_
  rotate_left
  · intro w' hS
    have hz := (hS.block _ (by have := HS4.out.sz; omega)).trans HS4.out.n1
    have n0 := cell_heap (i := 0) hz rfl
    have n1 := cell_heap (i := 1) hz rfl
    have n2 := cell_heap (i := 2) hz rfl
    have n3 := cell_heap (i := 3) hz rfl
    have n4 := cell_heap (i := 4) hz rfl
    have n5 := cell_heap (i := 5) hz rfl
    clear hz
    clear hS
    go_simp
    with_reducible rfl
  rotate_left
  · simp only [Act.put, List.setIfInBounds_toArray, List.set_cons_zero, List.set_cons_succ, i64_w, i32_w]
    rfl
  refine take_ (i := 5) (N := some 21) (v := ?_) (a' := ?_) #[true, false, true, false, false, true, false, false, false] rfl rfl (take_of HT_.out (by kernel_rfl)) (fun _ _ _ h => h) (Or.inl ⟨by rfl, ?_⟩) hHeld ?_ ?_
  rotate_left
  · intro w' hS
    have hz := (hS.block _ (by have := HS4.out.sz; omega)).trans HS4.out.n2
    have n0 := cell_heap (i := 0) hz rfl
    have n1 := cell_heap (i := 1) hz rfl
    have n2 := cell_heap (i := 2) hz rfl
    have n3 := cell_heap (i := 3) hz rfl
    have n4 := cell_heap (i := 4) hz rfl
    have n5 := cell_heap (i := 5) hz rfl
    clear hz
    clear hS
    go_simp
    with_reducible rfl
  rotate_left
  · simp only [Act.put, List.setIfInBounds_toArray, List.set_cons_zero, List.set_cons_succ, i64_w, i32_w]
    rfl
  refine one_ (i := 1) (N := some 17) #[true, true, true, false, false, true, false, false, false] rfl rfl (one_of HT_.out (by kernel_rfl)) (by decide) (fun K hK => ?_)
  refine goes_ Try.func51 (by kernel_rfl) rfl #[.agg #[.int .i64 k0, .int .i64 m0, .int .i64 l0, .int .i64 hh0, .slice ar0 r0.length cr0, .slice ak0 s0.length ck0]] (by rfl) rfl rfl (by (try simp only [List.map_toArray, List.map_cons, List.map_nil]); first | done | rfl) ?_
  have hc := count_calls (.mk k0 m0 l0 hh0 r0 s0) _ w_d ((G0.out.move (fun b hb => (HBa.out.block b (Nat.lt_of_lt_of_le hb HS4.out.bel.size)).trans (HS4.out.bel.block b hb))).mono (fun b hb => Nat.lt_of_lt_of_le hb (Nat.le_trans HS4.out.bel.size HBa.out.size))) (by have := HNN.out; omega)
  rw [← HQ.out.1] at hc
  refine (hc).mono ?_
  rintro e w5 ⟨rfl, hB⟩
  have HB_w5 := Lib.hid (HBa.out.trans (hB.mono HBa.out.size))
  clear hB hc
  refine ⟨_, rfl, ?_⟩
  clear hHeld
  refine hK.out _ _ HB_w5.out (fun hHeld => ?_)
  clear hK K
  refine norm_ (a' := ?_) ?_ ?_
  rotate_left
  · show Act.put _ (some 17) _ = _
    simp only [Act.put, List.setIfInBounds_toArray, List.set_cons_zero, List.set_cons_succ, i64_w, i32_w]
    rfl
  refine one_ (i := 3) (N := some 19) #[true, true, true, true, false, true, false, false, false] rfl rfl (one_of HT_.out (by kernel_rfl)) (by decide) (fun K hK => ?_)
  refine goes_ Try.func51 (by kernel_rfl) rfl #[.agg #[.int .i64 k1, .int .i64 m1, .int .i64 l1, .int .i64 hh1, .slice ar1 r1.length cr1, .slice ak1 s1.length ck1]] (by rfl) rfl rfl (by (try simp only [List.map_toArray, List.map_cons, List.map_nil]); first | done | rfl) ?_
  have hc := count_calls (.mk k1 m1 l1 hh1 r1 s1) _ w5 ((G1.out.move (fun b hb => (HB_w5.out.block b (Nat.lt_of_lt_of_le hb HS4.out.bel.size)).trans (HS4.out.bel.block b hb))).mono (fun b hb => Nat.lt_of_lt_of_le hb (Nat.le_trans HS4.out.bel.size HB_w5.out.size))) (by have := HNN.out; omega)
  rw [← HQ.out.2.1] at hc
  refine (hc).mono ?_
  rintro e w6 ⟨rfl, hB⟩
  have HB_w6 := Lib.hid (HB_w5.out.trans (hB.mono HB_w5.out.size))
  clear hB hc
  refine ⟨_, rfl, ?_⟩
  clear hHeld
  refine hK.out _ _ HB_w6.out (fun hHeld => ?_)
  clear hK K
  refine norm_ (a' := ?_) ?_ ?_
  rotate_left
  · show Act.put _ (some 19) _ = _
    simp only [Act.put, List.setIfInBounds_toArray, List.set_cons_zero, List.set_cons_succ, i64_w, i32_w]
    rfl
  refine pure_ (i := 4) (N := some 20) (v := ?_) (a' := ?_) #[true, true, true, true, true, true, false, false, false] rfl rfl (any_of HT_.out (by kernel_rfl)) (fun _ _ _ h => h) (Or.inl ⟨by rfl, ?_⟩) ?_ ?_
  rotate_left
  · intro w'
    go_simp
    with_reducible rfl
  rotate_left
  · simp only [Act.put, List.setIfInBounds_toArray, List.set_cons_zero, List.set_cons_succ, i64_w, i32_w]
    rfl
  refine one_ (i := 6) (N := some 22) #[true, true, true, true, true, true, true, false, false] rfl rfl (one_of HT_.out (by kernel_rfl)) (by decide) (fun K hK => ?_)
  refine goes_ Try.func51 (by kernel_rfl) rfl #[.agg #[.int .i64 k2, .int .i64 m2, .int .i64 l2, .int .i64 hh2, .slice ar2 r2.length cr2, .slice ak2 s2.length ck2]] (by rfl) rfl rfl (by (try simp only [List.map_toArray, List.map_cons, List.map_nil]); first | done | rfl) ?_
  have hc := count_calls (.mk k2 m2 l2 hh2 r2 s2) _ w6 ((G2.out.move (fun b hb => (HB_w6.out.block b (Nat.lt_of_lt_of_le hb HS4.out.bel.size)).trans (HS4.out.bel.block b hb))).mono (fun b hb => Nat.lt_of_lt_of_le hb (Nat.le_trans HS4.out.bel.size HB_w6.out.size))) (by have := HNN.out; omega)
  rw [← HQ.out.2.2] at hc
  refine (hc).mono ?_
  rintro e w7 ⟨rfl, hB⟩
  have HB_w7 := Lib.hid (HB_w6.out.trans (hB.mono HB_w6.out.size))
  clear hB hc
  refine ⟨_, rfl, ?_⟩
  clear hHeld
  refine hK.out _ _ HB_w7.out (fun hHeld => ?_)
  clear hK K
  refine norm_ (a' := ?_) ?_ ?_
  rotate_left
  · show Act.put _ (some 22) _ = _
    simp only [Act.put, List.setIfInBounds_toArray, List.set_cons_zero, List.set_cons_succ, i64_w, i32_w]
    rfl
  refine pure_ (i := 7) (N := some 23) (v := ?_) (a' := ?_) #[true, true, true, true, true, true, true, true, false] rfl rfl (any_of HT_.out (by kernel_rfl)) (fun _ _ _ h => h) (Or.inl ⟨by rfl, ?_⟩) ?_ ?_
  rotate_left
  · intro w'
    go_simp
    with_reducible rfl
  rotate_left
  · simp only [Act.put, List.setIfInBounds_toArray, List.set_cons_zero, List.set_cons_succ, i64_w, i32_w]
    rfl
  refine pure_ (i := 8) (N := some 24) (v := ?_) (a' := ?_) #[true, true, true, true, true, true, true, true, true] rfl rfl (any_of HT_.out (by kernel_rfl)) (fun _ _ _ h => h) (Or.inl ⟨by rfl, ?_⟩) ?_ ?_
  rotate_left
  · intro w'
    go_simp
    with_reducible rfl
  rotate_left
  · simp only [Act.put, List.setIfInBounds_toArray, List.set_cons_zero, List.set_cons_succ, i64_w, i32_w]
    rfl
  refine done_ (done_of HT_.out (by kernel_rfl)) ?_
  clear HT_ hHeld
  have HS7 := Lib.hid (HS4.out.below HB_w7.out)
  have hgt : 1900 < q0 + q1 + q2 := by have h := HM.out; rw [← HQ.out.1, ← HQ.out.2.1, ← HQ.out.2.2] at h; exact h
  clear e1 e2
  go_wp2_with fail
  go_ret
  exact ⟨rfl, HS7.out.bel⟩

/-- what stands behind the n first statements -/
def tailAt : Nat → Code → Code
  | 0, c => c
  | n + 1, .seq _ b => tailAt n b
  | _ + 1, c => c
noncomputable def joinsRest : Code := tailAt 6 (Try.f12.body.getD .skip)
set_option maxHeartbeats 16000000 in
set_option maxRecDepth 100000 in
theorem joins_tail (k0 m0 l0 hh0 k1 m1 l1 hh1 k2 m2 l2 hh2 : Int) (r0 r1 r2 : List S64) (s0 s1 s2 : List NT) (ar0 ak0 ar1 ak1 ar2 ak2 : Option Addr) (cr0 ck0 cr1 ck1 cr2 ck2 : Nat) (w : World) (hg : NIn w (· < w.heap.size) (.mk k0 m0 l0 hh0 r0 s0) [.int .i64 k0, .int .i64 m0, .int .i64 l0, .int .i64 hh0, .slice ar0 r0.length cr0, .slice ak0 s0.length ck0] ∧ NIn w (· < w.heap.size) (.mk k1 m1 l1 hh1 r1 s1) [.int .i64 k1, .int .i64 m1, .int .i64 l1, .int .i64 hh1, .slice ar1 r1.length cr1, .slice ak1 s1.length ck1] ∧ NIn w (· < w.heap.size) (.mk k2 m2 l2 hh2 r2 s2) [.int .i64 k2, .int .i64 m2, .int .i64 l2, .int .i64 hh2, .slice ar2 r2.length cr2, .slice ak2 s2.length ck2]) (hnd : NT.nodes (.mk k0 m0 l0 hh0 r0 s0) + NT.nodes (.mk k1 m1 l1 hh1 r1 s1) + NT.nodes (.mk k2 m2 l2 hh2 r2 s2) ≤ 1900) (x10 : World) (B8 B9 B10 : Nat) (u0_ u1_ u2_ u6_ u11_ u12_ u13_ u14_ u15_ u16_ u17_ u18_ u19_ u20_ u21_ u22_ u23_ u24_ u25_ u26_ u27_ u28_ u29_ u30_ u31_ u32_ u33_ u34_ u35_ u36_ u37_ u38_ u39_ u40_ u41_ u42_ u43_ u44_ u45_ u46_ u47_ u48_ u49_ u50_ u51_ u52_ u53_ u54_ u55_ u56_ u57_ u58_ u59_ u60_ u61_ u62_ u63_ u64_ u65_ u66_ u67_ u68_ u69_ u70_ u71_ u72_ u73_ u74_ u75_ u76_ u77_ u78_ u79_ u80_ u81_ u82_ u83_ u84_ u85_ u86_ u87_ u88_ u89_ u90_ u91_ u92_ u93_ u94_ u95_ u96_ u97_ u98_ u99_ u100_ u101_ u102_ u103_ u104_ u105_ u106_ u107_ u108_ u109_ u110_ u111_ u112_ u113_ u114_ u115_ u116_ u117_ u118_ u119_ u120_ u121_ u122_ u123_ u124_ u125_ u126_ u127_ u128_ u129_ u130_ u131_ : Value) (hj : JS w x10 #[.int .i64 k0, .int .i64 m0, .int .i64 l0, .int .i64 hh0, .slice ar0 r0.length cr0, .slice ak0 s0.length ck0] #[.int .i64 k1, .int .i64 m1, .int .i64 l1, .int .i64 hh1, .slice ar1 r1.length cr1, .slice ak1 s1.length ck1] #[.int .i64 k2, .int .i64 m2, .int .i64 l2, .int .i64 hh2, .slice ar2 r2.length cr2, .slice ak2 s2.length ck2]) (hh8_ : HeldT x10 B8 (catT [catT [.mk k0 m0 l0 hh0 r0 s0, .mk k1 m1 l1 hh1 r1 s1], .mk k2 m2 l2 hh2 r2 s2])) (hh9_ : HeldT x10 B9 (catT [.mk k0 m0 l0 hh0 r0 s0, catT [.mk k1 m1 l1 hh1 r1 s1, .mk k2 m2 l2 hh2 r2 s2]])) (hh10_ : HeldT x10 B10 (catT [.mk k0 m0 l0 hh0 r0 s0, .mk k1 m1 l1 hh1 r1 s1, .mk k2 m2 l2 hh2 r2 s2])) :
    Code.wp Try.prog joinsRest (bodyPost Try.prog Try.f12 (fun e w' => e = .returned (.bool true) ∧ Below w.heap.size w w')) ⟨(u0_ :: u1_ :: u2_ :: (.pointer (some ⟨w.heap.size, 0, none⟩)) :: (.pointer (some ⟨w.heap.size + 1, 0, none⟩)) :: (.pointer (some ⟨w.heap.size + 2, 0, none⟩)) :: u6_ :: (.bool true) :: (.pointer (some ⟨B8, 0, none⟩)) :: (.pointer (some ⟨B9, 0, none⟩)) :: (.pointer (some ⟨B10, 0, none⟩)) :: u11_ :: u12_ :: u13_ :: u14_ :: u15_ :: u16_ :: u17_ :: u18_ :: u19_ :: u20_ :: u21_ :: u22_ :: u23_ :: u24_ :: u25_ :: u26_ :: u27_ :: u28_ :: u29_ :: u30_ :: u31_ :: u32_ :: u33_ :: u34_ :: u35_ :: u36_ :: u37_ :: u38_ :: u39_ :: u40_ :: u41_ :: u42_ :: u43_ :: u44_ :: u45_ :: u46_ :: u47_ :: u48_ :: u49_ :: u50_ :: u51_ :: u52_ :: u53_ :: u54_ :: u55_ :: u56_ :: u57_ :: u58_ :: u59_ :: u60_ :: u61_ :: u62_ :: u63_ :: u64_ :: u65_ :: u66_ :: u67_ :: u68_ :: u69_ :: u70_ :: u71_ :: u72_ :: u73_ :: u74_ :: u75_ :: u76_ :: u77_ :: u78_ :: u79_ :: u80_ :: u81_ :: u82_ :: u83_ :: u84_ :: u85_ :: u86_ :: u87_ :: u88_ :: u89_ :: u90_ :: u91_ :: u92_ :: u93_ :: u94_ :: u95_ :: u96_ :: u97_ :: u98_ :: u99_ :: u100_ :: u101_ :: u102_ :: u103_ :: u104_ :: u105_ :: u106_ :: u107_ :: u108_ :: u109_ :: u110_ :: u111_ :: u112_ :: u113_ :: u114_ :: u115_ :: u116_ :: u117_ :: u118_ :: u119_ :: u120_ :: u121_ :: u122_ :: u123_ :: u124_ :: u125_ :: u126_ :: u127_ :: u128_ :: u129_ :: u130_ :: u131_ :: [] : List Value).toArray, []⟩ x10 := by
  have G0 := Lib.hid hg.1
  have G1 := Lib.hid hg.2.1
  have G2 := Lib.hid hg.2.2
  have HND := Lib.hid hnd
  have HJ_x10 := Lib.hid hj
  have HH8_x10 := Lib.hid hh8_
  have HH9_x10 := Lib.hid hh9_
  have HH10_x10 := Lib.hid hh10_
  clear hg hnd hj hh8_ hh9_ hh10_
  conv => arg 2; whnf
  go_upto_region 7 with (fail)
  go_cut [11] (fun s11 wx => ∃ B : Nat, s11 = .pointer (some ⟨B, 0, none⟩) ∧ Aside0 (Below x10.heap.size x10 wx ∧ HeldT wx B (altT [altT [.mk k0 m0 l0 hh0 r0 s0, .mk k1 m1 l1 hh1 r1 s1], .mk k2 m2 l2 hh2 r2 s2])))
  case first =>
    have HB0x10 := Lib.hid (show Below x10.heap.size x10 x10.drew from (Below.refl _ x10).drew)
    refine start_ (n := 9) (S := fun w' => Below x10.heap.size x10 w') (ds := [8]) #[false, false, false, false, false, false, false, false, false] (by kernel_rfl) rfl rfl HB0x10.out (fun hHeld => ?_)
    refine with_self (fun HT_ => ?_)
    generalize x10.drew = u201 at HB0x10 hHeld ⊢
    refine take_ (i := 0) (N := some 45) (v := ?_) (a' := ?_) #[true, false, false, false, false, false, false, false, false] rfl rfl (take_of HT_.out (by kernel_rfl)) (fun _ _ _ h => h) (Or.inl ⟨by rfl, ?_⟩) hHeld ?_ ?_
    rotate_left
    · intro w' hS
      have hz := (hS.block _ (by have := HJ_x10.out.sz; omega)).trans HJ_x10.out.n0
      have n0 := cell_heap (i := 0) hz rfl
      have n1 := cell_heap (i := 1) hz rfl
      have n2 := cell_heap (i := 2) hz rfl
      have n3 := cell_heap (i := 3) hz rfl
      have n4 := cell_heap (i := 4) hz rfl
      have n5 := cell_heap (i := 5) hz rfl
      clear hz
      clear hS
      go_simp
      with_reducible rfl
    rotate_left
    · simp only [Act.put, List.setIfInBounds_toArray, List.set_cons_zero, List.set_cons_succ, i64_w, i32_w]
      rfl
    refine take_ (i := 1) (N := some 46) (v := ?_) (a' := ?_) #[true, true, false, false, false, false, false, false, false] rfl rfl (take_of HT_.out (by kernel_rfl)) (fun _ _ _ h => h) (Or.inl ⟨by rfl, ?_⟩) hHeld ?_ ?_
    rotate_left
    · intro w' hS
      have hz := (hS.block _ (by have := HJ_x10.out.sz; omega)).trans HJ_x10.out.n1
      have n0 := cell_heap (i := 0) hz rfl
      have n1 := cell_heap (i := 1) hz rfl
      have n2 := cell_heap (i := 2) hz rfl
      have n3 := cell_heap (i := 3) hz rfl
      have n4 := cell_heap (i := 4) hz rfl
      have n5 := cell_heap (i := 5) hz rfl
      clear hz
      clear hS
      go_simp
      with_reducible rfl
    rotate_left
    · simp only [Act.put, List.setIfInBounds_toArray, List.set_cons_zero, List.set_cons_succ, i64_w, i32_w]
      rfl
    refine take_ (i := 4) (N := some 49) (v := ?_) (a' := ?_) #[true, true, false, false, true, false, false, false, false] rfl rfl (take_of HT_.out (by kernel_rfl)) (fun _ _ _ h => h) (Or.inl ⟨by rfl, ?_⟩) hHeld ?_ ?_
    rotate_left
    · intro w' hS
      have hz := (hS.block _ (by have := HJ_x10.out.sz; omega)).trans HJ_x10.out.n2
      have n0 := cell_heap (i := 0) hz rfl
      have n1 := cell_heap (i := 1) hz rfl
      have n2 := cell_heap (i := 2) hz rfl
      have n3 := cell_heap (i := 3) hz rfl
      have n4 := cell_heap (i := 4) hz rfl
      have n5 := cell_heap (i := 5) hz rfl
      clear hz
      clear hS
      go_simp
      with_reducible rfl
    rotate_left
    · simp only [Act.put, List.setIfInBounds_toArray, List.set_cons_zero, List.set_cons_succ, i64_w, i32_w]
      rfl
    refine two_ (i := 2) (j := 7) (Ni := some 47) (Nj := some 11) #[true, true, true, false, true, false, false, false, false] #[true, true, false, false, true, false, false, true, false] rfl rfl rfl rfl HT_.out (by kernel_rfl) (by decide) (by decide) (fun K hK => ?_) (fun K hK => ?_)
    · skip
      refine value_ (v := .slice (some ⟨u201.heap.size, 0, none⟩) 2 2) (w1 := u201.alloc (.cells #[.int .i64 k0, .int .i64 m0, .int .i64 l0, .int .i64 hh0, .slice ar0 r0.length cr0, .slice ak0 s0.length ck0, .int .i64 k1, .int .i64 m1, .int .i64 l1, .int .i64 hh1, .slice ar1 r1.length cr1, .slice ak1 s1.length ck1] 44)) (by rfl) rfl (by go_simp; first | done | rfl) ?_
      obtain ⟨u202, hnw⟩ : ∃ x, x = u201.alloc (.cells #[.int .i64 k0, .int .i64 m0, .int .i64 l0, .int .i64 hh0, .slice ar0 r0.length cr0, .slice ak0 s0.length ck0, .int .i64 k1, .int .i64 m1, .int .i64 l1, .int .i64 hh1, .slice ar1 r1.length cr1, .slice ak1 s1.length ck1] 44) := ⟨_, rfl⟩
      rw [← hnw]
      have hB : Below u201.heap.size u201 u202 := by rw [hnw]; exact (Below.refl _ u201).alloc (Nat.le_refl _) _
      have HR_u202 := Lib.hid (show u202.heap[u201.heap.size]? = some (.cells #[.int .i64 k0, .int .i64 m0, .int .i64 l0, .int .i64 hh0, .slice ar0 r0.length cr0, .slice ak0 s0.length ck0, .int .i64 k1, .int .i64 m1, .int .i64 l1, .int .i64 hh1, .slice ar1 r1.length cr1, .slice ak1 s1.length ck1] 44 (0, 0)) by rw [hnw]; exact World.alloc_heap_new u201 _)
      clear hnw
      have HB_u202 := Lib.hid (HB0x10.out.trans (hB.mono HB0x10.out.size))
      clear hB hHeld
      refine hK.out _ _ HB_u202.out (fun hHeld => ?_)
      clear hK K
      refine norm_ (a' := ?_) ?_ ?_
      rotate_left
      · show Act.put _ (some 47) _ = _
        simp only [Act.put, List.setIfInBounds_toArray, List.set_cons_zero, List.set_cons_succ, i64_w, i32_w]
        rfl
      refine two_ (i := 3) (j := 7) (Ni := some 48) (Nj := some 11) #[true, true, true, true, true, false, false, false, false] #[true, true, true, false, true, false, false, true, false] rfl rfl rfl rfl HT_.out (by kernel_rfl) (by decide) (by decide) (fun K hK => ?_) (fun K hK => ?_)
      · skip
        refine goes_ Try.func56 (by kernel_rfl) rfl #[.slice (some ⟨u201.heap.size, 0, none⟩) 2 2] (by rfl) rfl rfl (by (try simp only [List.map_toArray, List.map_cons, List.map_nil]); first | done | rfl) ?_
        have hrb := ((Below.refl u202.heap.size u202).block _ (Array.getElem?_eq_some_iff.1 HR_u202.out).1).trans HR_u202.out
        refine (alt_of2 u202 _ (.mk k0 m0 l0 hh0 r0 s0) (.mk k1 m1 l1 hh1 r1 s1) [.int .i64 k0, .int .i64 m0, .int .i64 l0, .int .i64 hh0, .slice ar0 r0.length cr0, .slice ak0 s0.length ck0] [.int .i64 k1, .int .i64 m1, .int .i64 l1, .int .i64 hh1, .slice ar1 r1.length cr1, .slice ak1 s1.length ck1] hrb ((G0.out.move (fun b hb => (HB_u202.out.block b (Nat.lt_of_lt_of_le hb HJ_x10.out.bel.size)).trans (HJ_x10.out.bel.block b hb))).mono (fun b hb => Nat.lt_of_lt_of_le hb (Nat.le_trans HJ_x10.out.bel.size HB_u202.out.size))) ((G1.out.move (fun b hb => (HB_u202.out.block b (Nat.lt_of_lt_of_le hb HJ_x10.out.bel.size)).trans (HJ_x10.out.bel.block b hb))).mono (fun b hb => Nat.lt_of_lt_of_le hb (Nat.le_trans HJ_x10.out.bel.size HB_u202.out.size))) (by have hnd := HND.out; omega)).mono ?_
        rintro e u203 ⟨u204, u205, u206, u207, u208, u209, u210, u211, u212, u213, rfl, hNn, hB⟩
        have HN_u203 := Lib.hid hNn
        clear hNn hrb
        refine ⟨_, rfl, ?_⟩
        have HT_u202_u203 := Lib.hid hB
        have HB_u203 := Lib.hid (HB_u202.out.trans (hB.mono HB_u202.out.size))
        clear hB hHeld
        refine hK.out _ _ HB_u203.out (fun hHeld => ?_)
        clear hK K
        refine norm_ (a' := ?_) ?_ ?_
        rotate_left
        · show Act.put _ (some 48) _ = _
          simp only [Act.put, List.setIfInBounds_toArray, List.set_cons_zero, List.set_cons_succ, i64_w, i32_w]
          rfl
        refine two_ (i := 5) (j := 7) (Ni := some 50) (Nj := some 11) #[true, true, true, true, true, true, false, false, false] #[true, true, true, true, true, false, false, true, false] rfl rfl rfl rfl HT_.out (by kernel_rfl) (by decide) (by decide) (fun K hK => ?_) (fun K hK => ?_)
        · skip
          refine value_ (v := .slice (some ⟨u203.heap.size, 0, none⟩) 2 2) (w1 := u203.alloc (.cells #[.int .i64 u204, .int .i64 u205, .int .i64 u206, .int .i64 u207, .slice u208 u210 u211, .slice u209 u212 u213, .int .i64 k2, .int .i64 m2, .int .i64 l2, .int .i64 hh2, .slice ar2 r2.length cr2, .slice ak2 s2.length ck2] 44)) (by rfl) rfl (by go_simp; first | done | rfl) ?_
          obtain ⟨u214, hnw⟩ : ∃ x, x = u203.alloc (.cells #[.int .i64 u204, .int .i64 u205, .int .i64 u206, .int .i64 u207, .slice u208 u210 u211, .slice u209 u212 u213, .int .i64 k2, .int .i64 m2, .int .i64 l2, .int .i64 hh2, .slice ar2 r2.length cr2, .slice ak2 s2.length ck2] 44) := ⟨_, rfl⟩
          rw [← hnw]
          have hB : Below u203.heap.size u203 u214 := by rw [hnw]; exact (Below.refl _ u203).alloc (Nat.le_refl _) _
          have HR_u214 := Lib.hid (show u214.heap[u203.heap.size]? = some (.cells #[.int .i64 u204, .int .i64 u205, .int .i64 u206, .int .i64 u207, .slice u208 u210 u211, .slice u209 u212 u213, .int .i64 k2, .int .i64 m2, .int .i64 l2, .int .i64 hh2, .slice ar2 r2.length cr2, .slice ak2 s2.length ck2] 44 (0, 0)) by rw [hnw]; exact World.alloc_heap_new u203 _)
          clear hnw
          have HT_u202_u214 := Lib.hid (HT_u202_u203.out.trans (hB.mono HT_u202_u203.out.size))
          have HT_u203_u214 := Lib.hid hB
          have HB_u214 := Lib.hid (HB_u203.out.trans (hB.mono HB_u203.out.size))
          clear hB hHeld
          refine hK.out _ _ HB_u214.out (fun hHeld => ?_)
          clear hK K
          refine norm_ (a' := ?_) ?_ ?_
          rotate_left
          · show Act.put _ (some 50) _ = _
            simp only [Act.put, List.setIfInBounds_toArray, List.set_cons_zero, List.set_cons_succ, i64_w, i32_w]
            rfl
          refine two_ (i := 6) (j := 7) (Ni := some 51) (Nj := some 11) #[true, true, true, true, true, true, true, false, false] #[true, true, true, true, true, true, false, true, false] rfl rfl rfl rfl HT_.out (by kernel_rfl) (by decide) (by decide) (fun K hK => ?_) (fun K hK => ?_)
          · skip
            refine goes_ Try.func56 (by kernel_rfl) rfl #[.slice (some ⟨u203.heap.size, 0, none⟩) 2 2] (by rfl) rfl rfl (by (try simp only [List.map_toArray, List.map_cons, List.map_nil]); first | done | rfl) ?_
            have hrb := ((Below.refl u214.heap.size u214).block _ (Array.getElem?_eq_some_iff.1 HR_u214.out).1).trans HR_u214.out
            refine (alt_of2 u214 _ (altT [.mk k0 m0 l0 hh0 r0 s0, .mk k1 m1 l1 hh1 r1 s1]) (.mk k2 m2 l2 hh2 r2 s2) [.int .i64 u204, .int .i64 u205, .int .i64 u206, .int .i64 u207, .slice u208 u210 u211, .slice u209 u212 u213] [.int .i64 k2, .int .i64 m2, .int .i64 l2, .int .i64 hh2, .slice ar2 r2.length cr2, .slice ak2 s2.length ck2] hrb ((HN_u203.out.move (fun b hb => HT_u203_u214.out.block b hb.2)).mono (fun b hb => Nat.lt_of_lt_of_le hb.2 HT_u203_u214.out.size)) ((G2.out.move (fun b hb => (HB_u214.out.block b (Nat.lt_of_lt_of_le hb HJ_x10.out.bel.size)).trans (HJ_x10.out.bel.block b hb))).mono (fun b hb => Nat.lt_of_lt_of_le hb (Nat.le_trans HJ_x10.out.bel.size HB_u214.out.size))) (by have hnd := HND.out; have := altT_nodes [.mk k0 m0 l0 hh0 r0 s0, .mk k1 m1 l1 hh1 r1 s1]; simp only [NT.nodesL] at this; omega)).mono ?_
            rintro e u215 ⟨u216, u217, u218, u219, u220, u221, u222, u223, u224, u225, rfl, hNn, hB⟩
            have HN_u215 := Lib.hid hNn
            clear hNn hrb
            refine ⟨_, rfl, ?_⟩
            have HT_u202_u215 := Lib.hid (HT_u202_u214.out.trans (hB.mono HT_u202_u214.out.size))
            have HT_u203_u215 := Lib.hid (HT_u203_u214.out.trans (hB.mono HT_u203_u214.out.size))
            have HT_u214_u215 := Lib.hid hB
            have HB_u215 := Lib.hid (HB_u214.out.trans (hB.mono HB_u214.out.size))
            clear hB hHeld
            refine hK.out _ _ HB_u215.out (fun hHeld => ?_)
            clear hK K
            refine norm_ (a' := ?_) ?_ ?_
            rotate_left
            · show Act.put _ (some 51) _ = _
              simp only [Act.put, List.setIfInBounds_toArray, List.set_cons_zero, List.set_cons_succ, i64_w, i32_w]
              rfl
            refine one_ (i := 7) (N := some 11) #[true, true, true, true, true, true, true, true, false] rfl rfl (one_of HT_.out (by kernel_rfl)) (by decide) (fun K hK => ?_)
            refine value_ (v := .pointer (some ⟨u215.heap.size, 0, none⟩)) (w1 := u215.alloc (.cells #[.int .i64 0, .int .i64 0, .int .i64 0, .int .i64 0, .slice none 0 0, .slice none 0 0] 44)) (by rfl) rfl (by go_simp; first | done | rfl) ?_
            obtain ⟨u226, hnw⟩ : ∃ x, x = u215.alloc (.cells #[.int .i64 0, .int .i64 0, .int .i64 0, .int .i64 0, .slice none 0 0, .slice none 0 0] 44) := ⟨_, rfl⟩
            rw [← hnw]
            have hB : Below u215.heap.size u215 u226 := by rw [hnw]; exact (Below.refl _ u215).alloc (Nat.le_refl _) _
            have HZ_u226 := Lib.hid (show u226.heap[u215.heap.size]? = some (.cells #[.int .i64 0, .int .i64 0, .int .i64 0, .int .i64 0, .slice none 0 0, .slice none 0 0] 44 (0, 0)) by rw [hnw]; exact World.alloc_heap_new u215 _)
            have HZS_u226 := Lib.hid (show u226.heap.size = u215.heap.size + 1 by rw [hnw]; simp)
            clear hnw
            have HT_u202_u226 := Lib.hid (HT_u202_u215.out.trans (hB.mono HT_u202_u215.out.size))
            have HT_u203_u226 := Lib.hid (HT_u203_u215.out.trans (hB.mono HT_u203_u215.out.size))
            have HT_u214_u226 := Lib.hid (HT_u214_u215.out.trans (hB.mono HT_u214_u215.out.size))
            have HT_u215_u226 := Lib.hid hB
            have HB_u226 := Lib.hid (HB_u215.out.trans (hB.mono HB_u215.out.size))
            clear hB hHeld
            refine hK.out _ _ HB_u226.out (fun hHeld => ?_)
            clear hK K
            refine norm_ (a' := ?_) ?_ ?_
            rotate_left
            · show Act.put _ (some 11) _ = _
              simp only [Act.put, List.setIfInBounds_toArray, List.set_cons_zero, List.set_cons_succ, i64_w, i32_w]
              rfl
            have hzz := ((Below.refl u226.heap.size u226).block _ (Array.getElem?_eq_some_iff.1 HZ_u226.out).1).trans HZ_u226.out
            have hnn : NIn u226 (fun b => b < u226.heap.size ∧ b ≠ u215.heap.size) _ [.int .i64 u216, .int .i64 u217, .int .i64 u218, .int .i64 u219, .slice u220 u222 u223, .slice u221 u224 u225] := (HN_u215.out.move (fun b hb => HT_u215_u226.out.block b hb.2)).mono (fun b hb => ⟨Nat.lt_of_lt_of_le hb.2 HT_u215_u226.out.size, by have h1 := HZS_u226.out; omega⟩)
            have hput := HeldT.put hnn hzz rfl
            have hbp : Below x10.heap.size x10 (put6 u226 u215.heap.size 0 (.int .i64 u216) (.int .i64 u217) (.int .i64 u218) (.int .i64 u219) (.slice u220 u222 u223) (.slice u221 u224 u225)) := put6_below HB_u226.out HB_u215.out.size _ _ _ _ _ _ _
            have HPUT := Lib.hid hput
            have HBP := Lib.hid hbp
            have d0 := cell_heap (i := 0) hzz rfl
            have d1 := cell_heap (i := 1) hzz rfl
            have d2 := cell_heap (i := 2) hzz rfl
            have d3 := cell_heap (i := 3) hzz rfl
            have d4 := cell_heap (i := 4) hzz rfl
            have d5 := cell_heap (i := 5) hzz rfl
            have q0 : ∀ o, u226.frozen? ⟨u215.heap.size, o, none⟩ = false := fun o => by simp [World.frozen?, hzz]
            clear hzz hnn hput hbp hHeld
            refine last_ (i := 8) (N := none) #[true, true, true, true, true, true, true, true, true] rfl rfl (one_of HT_.out (by kernel_rfl)) (by decide) (fun K hK => ?_)
            refine skip_ (w1 := ?_) (by rfl) rfl ?_ ?_
            rotate_left
            · go_simp
              rfl
            refine hK.out _ _ ?_
            clear hK K d0 d1 d2 d3 d4 d5 q0
            refine done_ (done_of HT_.out (by kernel_rfl)) ?_
            clear HT_
            go_wp2_with fail
            go_meet
            exact ⟨u215.heap.size, rfl, ⟨HBP.out, HPUT.out⟩⟩
          · skip
            refine value_ (v := .pointer (some ⟨u214.heap.size, 0, none⟩)) (w1 := u214.alloc (.cells #[.int .i64 0, .int .i64 0, .int .i64 0, .int .i64 0, .slice none 0 0, .slice none 0 0] 44)) (by rfl) rfl (by go_simp; first | done | rfl) ?_
            obtain ⟨u227, hnw⟩ : ∃ x, x = u214.alloc (.cells #[.int .i64 0, .int .i64 0, .int .i64 0, .int .i64 0, .slice none 0 0, .slice none 0 0] 44) := ⟨_, rfl⟩
            rw [← hnw]
            have hB : Below u214.heap.size u214 u227 := by rw [hnw]; exact (Below.refl _ u214).alloc (Nat.le_refl _) _
            have HZ_u227 := Lib.hid (show u227.heap[u214.heap.size]? = some (.cells #[.int .i64 0, .int .i64 0, .int .i64 0, .int .i64 0, .slice none 0 0, .slice none 0 0] 44 (0, 0)) by rw [hnw]; exact World.alloc_heap_new u214 _)
            have HZS_u227 := Lib.hid (show u227.heap.size = u214.heap.size + 1 by rw [hnw]; simp)
            clear hnw
            have HT_u202_u227 := Lib.hid (HT_u202_u214.out.trans (hB.mono HT_u202_u214.out.size))
            have HT_u203_u227 := Lib.hid (HT_u203_u214.out.trans (hB.mono HT_u203_u214.out.size))
            have HT_u214_u227 := Lib.hid hB
            have HB_u227 := Lib.hid (HB_u214.out.trans (hB.mono HB_u214.out.size))
            clear hB hHeld
            refine hK.out _ _ HB_u227.out (fun hHeld => ?_)
            clear hK K
            refine norm_ (a' := ?_) ?_ ?_
            rotate_left
            · show Act.put _ (some 11) _ = _
              simp only [Act.put, List.setIfInBounds_toArray, List.set_cons_zero, List.set_cons_succ, i64_w, i32_w]
              rfl
            refine one_ (i := 6) (N := some 51) #[true, true, true, true, true, true, true, true, false] rfl rfl (one_of HT_.out (by kernel_rfl)) (by decide) (fun K hK => ?_)
            refine goes_ Try.func56 (by kernel_rfl) rfl #[.slice (some ⟨u203.heap.size, 0, none⟩) 2 2] (by rfl) rfl rfl (by (try simp only [List.map_toArray, List.map_cons, List.map_nil]); first | done | rfl) ?_
            have hrb := (HT_u214_u227.out.block _ (Array.getElem?_eq_some_iff.1 HR_u214.out).1).trans HR_u214.out
            refine (alt_of2 u227 _ (altT [.mk k0 m0 l0 hh0 r0 s0, .mk k1 m1 l1 hh1 r1 s1]) (.mk k2 m2 l2 hh2 r2 s2) [.int .i64 u204, .int .i64 u205, .int .i64 u206, .int .i64 u207, .slice u208 u210 u211, .slice u209 u212 u213] [.int .i64 k2, .int .i64 m2, .int .i64 l2, .int .i64 hh2, .slice ar2 r2.length cr2, .slice ak2 s2.length ck2] hrb ((HN_u203.out.move (fun b hb => HT_u203_u227.out.block b hb.2)).mono (fun b hb => Nat.lt_of_lt_of_le hb.2 HT_u203_u227.out.size)) ((G2.out.move (fun b hb => (HB_u227.out.block b (Nat.lt_of_lt_of_le hb HJ_x10.out.bel.size)).trans (HJ_x10.out.bel.block b hb))).mono (fun b hb => Nat.lt_of_lt_of_le hb (Nat.le_trans HJ_x10.out.bel.size HB_u227.out.size))) (by have hnd := HND.out; have := altT_nodes [.mk k0 m0 l0 hh0 r0 s0, .mk k1 m1 l1 hh1 r1 s1]; simp only [NT.nodesL] at this; omega)).mono ?_
            rintro e u228 ⟨u229, u230, u231, u232, u233, u234, u235, u236, u237, u238, rfl, hNn, hB⟩
            have HN_u228 := Lib.hid hNn
            clear hNn hrb
            refine ⟨_, rfl, ?_⟩
            have HT_u202_u228 := Lib.hid (HT_u202_u227.out.trans (hB.mono HT_u202_u227.out.size))
            have HT_u203_u228 := Lib.hid (HT_u203_u227.out.trans (hB.mono HT_u203_u227.out.size))
            have HT_u214_u228 := Lib.hid (HT_u214_u227.out.trans (hB.mono HT_u214_u227.out.size))
            have HT_u227_u228 := Lib.hid hB
            have HB_u228 := Lib.hid (HB_u227.out.trans (hB.mono HB_u227.out.size))
            clear hB hHeld
            refine hK.out _ _ HB_u228.out (fun hHeld => ?_)
            clear hK K
            refine norm_ (a' := ?_) ?_ ?_
            rotate_left
            · show Act.put _ (some 51) _ = _
              simp only [Act.put, List.setIfInBounds_toArray, List.set_cons_zero, List.set_cons_succ, i64_w, i32_w]
              rfl
            have hzz := (HT_u227_u228.out.block _ (Array.getElem?_eq_some_iff.1 HZ_u227.out).1).trans HZ_u227.out
            have hnn : NIn u228 (fun b => b < u228.heap.size ∧ b ≠ u214.heap.size) _ [.int .i64 u229, .int .i64 u230, .int .i64 u231, .int .i64 u232, .slice u233 u235 u236, .slice u234 u237 u238] := (HN_u228.out.move (fun b hb => (Below.refl u228.heap.size u228).block b hb.2)).mono (fun b hb => ⟨Nat.lt_of_lt_of_le hb.2 (Below.refl u228.heap.size u228).size, by have h1 := HZS_u227.out; omega⟩)
            have hput := HeldT.put hnn hzz rfl
            have hbp : Below x10.heap.size x10 (put6 u228 u214.heap.size 0 (.int .i64 u229) (.int .i64 u230) (.int .i64 u231) (.int .i64 u232) (.slice u233 u235 u236) (.slice u234 u237 u238)) := put6_below HB_u228.out HB_u214.out.size _ _ _ _ _ _ _
            have HPUT := Lib.hid hput
            have HBP := Lib.hid hbp
            have d0 := cell_heap (i := 0) hzz rfl
            have d1 := cell_heap (i := 1) hzz rfl
            have d2 := cell_heap (i := 2) hzz rfl
            have d3 := cell_heap (i := 3) hzz rfl
            have d4 := cell_heap (i := 4) hzz rfl
            have d5 := cell_heap (i := 5) hzz rfl
            have q0 : ∀ o, u228.frozen? ⟨u214.heap.size, o, none⟩ = false := fun o => by simp [World.frozen?, hzz]
            clear hzz hnn hput hbp hHeld
            refine last_ (i := 8) (N := none) #[true, true, true, true, true, true, true, true, true] rfl rfl (one_of HT_.out (by kernel_rfl)) (by decide) (fun K hK => ?_)
            refine skip_ (w1 := ?_) (by rfl) rfl ?_ ?_
            rotate_left
            · go_simp
              rfl
            refine hK.out _ _ ?_
            clear hK K d0 d1 d2 d3 d4 d5 q0
            refine done_ (done_of HT_.out (by kernel_rfl)) ?_
            clear HT_
            go_wp2_with fail
            go_meet
            exact ⟨u214.heap.size, rfl, ⟨HBP.out, HPUT.out⟩⟩
        · skip
          refine value_ (v := .pointer (some ⟨u203.heap.size, 0, none⟩)) (w1 := u203.alloc (.cells #[.int .i64 0, .int .i64 0, .int .i64 0, .int .i64 0, .slice none 0 0, .slice none 0 0] 44)) (by rfl) rfl (by go_simp; first | done | rfl) ?_
          obtain ⟨u239, hnw⟩ : ∃ x, x = u203.alloc (.cells #[.int .i64 0, .int .i64 0, .int .i64 0, .int .i64 0, .slice none 0 0, .slice none 0 0] 44) := ⟨_, rfl⟩
          rw [← hnw]
          have hB : Below u203.heap.size u203 u239 := by rw [hnw]; exact (Below.refl _ u203).alloc (Nat.le_refl _) _
          have HZ_u239 := Lib.hid (show u239.heap[u203.heap.size]? = some (.cells #[.int .i64 0, .int .i64 0, .int .i64 0, .int .i64 0, .slice none 0 0, .slice none 0 0] 44 (0, 0)) by rw [hnw]; exact World.alloc_heap_new u203 _)
          have HZS_u239 := Lib.hid (show u239.heap.size = u203.heap.size + 1 by rw [hnw]; simp)
          clear hnw
          have HT_u202_u239 := Lib.hid (HT_u202_u203.out.trans (hB.mono HT_u202_u203.out.size))
          have HT_u203_u239 := Lib.hid hB
          have HB_u239 := Lib.hid (HB_u203.out.trans (hB.mono HB_u203.out.size))
          clear hB hHeld
          refine hK.out _ _ HB_u239.out (fun hHeld => ?_)
          clear hK K
          refine norm_ (a' := ?_) ?_ ?_
          rotate_left
          · show Act.put _ (some 11) _ = _
            simp only [Act.put, List.setIfInBounds_toArray, List.set_cons_zero, List.set_cons_succ, i64_w, i32_w]
            rfl
          refine one_ (i := 5) (N := some 50) #[true, true, true, true, true, true, false, true, false] rfl rfl (one_of HT_.out (by kernel_rfl)) (by decide) (fun K hK => ?_)
          refine value_ (v := .slice (some ⟨u239.heap.size, 0, none⟩) 2 2) (w1 := u239.alloc (.cells #[.int .i64 u204, .int .i64 u205, .int .i64 u206, .int .i64 u207, .slice u208 u210 u211, .slice u209 u212 u213, .int .i64 k2, .int .i64 m2, .int .i64 l2, .int .i64 hh2, .slice ar2 r2.length cr2, .slice ak2 s2.length ck2] 44)) (by rfl) rfl (by go_simp; first | done | rfl) ?_
          obtain ⟨u240, hnw⟩ : ∃ x, x = u239.alloc (.cells #[.int .i64 u204, .int .i64 u205, .int .i64 u206, .int .i64 u207, .slice u208 u210 u211, .slice u209 u212 u213, .int .i64 k2, .int .i64 m2, .int .i64 l2, .int .i64 hh2, .slice ar2 r2.length cr2, .slice ak2 s2.length ck2] 44) := ⟨_, rfl⟩
          rw [← hnw]
          have hB : Below u239.heap.size u239 u240 := by rw [hnw]; exact (Below.refl _ u239).alloc (Nat.le_refl _) _
          have HR_u240 := Lib.hid (show u240.heap[u239.heap.size]? = some (.cells #[.int .i64 u204, .int .i64 u205, .int .i64 u206, .int .i64 u207, .slice u208 u210 u211, .slice u209 u212 u213, .int .i64 k2, .int .i64 m2, .int .i64 l2, .int .i64 hh2, .slice ar2 r2.length cr2, .slice ak2 s2.length ck2] 44 (0, 0)) by rw [hnw]; exact World.alloc_heap_new u239 _)
          clear hnw
          have HT_u202_u240 := Lib.hid (HT_u202_u239.out.trans (hB.mono HT_u202_u239.out.size))
          have HT_u203_u240 := Lib.hid (HT_u203_u239.out.trans (hB.mono HT_u203_u239.out.size))
          have HT_u239_u240 := Lib.hid hB
          have HB_u240 := Lib.hid (HB_u239.out.trans (hB.mono HB_u239.out.size))
          clear hB hHeld
          refine hK.out _ _ HB_u240.out (fun hHeld => ?_)
          clear hK K
          refine norm_ (a' := ?_) ?_ ?_
          rotate_left
          · show Act.put _ (some 50) _ = _
            simp only [Act.put, List.setIfInBounds_toArray, List.set_cons_zero, List.set_cons_succ, i64_w, i32_w]
            rfl
          refine one_ (i := 6) (N := some 51) #[true, true, true, true, true, true, true, true, false] rfl rfl (one_of HT_.out (by kernel_rfl)) (by decide) (fun K hK => ?_)
          refine goes_ Try.func56 (by kernel_rfl) rfl #[.slice (some ⟨u239.heap.size, 0, none⟩) 2 2] (by rfl) rfl rfl (by (try simp only [List.map_toArray, List.map_cons, List.map_nil]); first | done | rfl) ?_
          have hrb := ((Below.refl u240.heap.size u240).block _ (Array.getElem?_eq_some_iff.1 HR_u240.out).1).trans HR_u240.out
          refine (alt_of2 u240 _ (altT [.mk k0 m0 l0 hh0 r0 s0, .mk k1 m1 l1 hh1 r1 s1]) (.mk k2 m2 l2 hh2 r2 s2) [.int .i64 u204, .int .i64 u205, .int .i64 u206, .int .i64 u207, .slice u208 u210 u211, .slice u209 u212 u213] [.int .i64 k2, .int .i64 m2, .int .i64 l2, .int .i64 hh2, .slice ar2 r2.length cr2, .slice ak2 s2.length ck2] hrb ((HN_u203.out.move (fun b hb => HT_u203_u240.out.block b hb.2)).mono (fun b hb => Nat.lt_of_lt_of_le hb.2 HT_u203_u240.out.size)) ((G2.out.move (fun b hb => (HB_u240.out.block b (Nat.lt_of_lt_of_le hb HJ_x10.out.bel.size)).trans (HJ_x10.out.bel.block b hb))).mono (fun b hb => Nat.lt_of_lt_of_le hb (Nat.le_trans HJ_x10.out.bel.size HB_u240.out.size))) (by have hnd := HND.out; have := altT_nodes [.mk k0 m0 l0 hh0 r0 s0, .mk k1 m1 l1 hh1 r1 s1]; simp only [NT.nodesL] at this; omega)).mono ?_
          rintro e u241 ⟨u242, u243, u244, u245, u246, u247, u248, u249, u250, u251, rfl, hNn, hB⟩
          have HN_u241 := Lib.hid hNn
          clear hNn hrb
          refine ⟨_, rfl, ?_⟩
          have HT_u202_u241 := Lib.hid (HT_u202_u240.out.trans (hB.mono HT_u202_u240.out.size))
          have HT_u203_u241 := Lib.hid (HT_u203_u240.out.trans (hB.mono HT_u203_u240.out.size))
          have HT_u239_u241 := Lib.hid (HT_u239_u240.out.trans (hB.mono HT_u239_u240.out.size))
          have HT_u240_u241 := Lib.hid hB
          have HB_u241 := Lib.hid (HB_u240.out.trans (hB.mono HB_u240.out.size))
          clear hB hHeld
          refine hK.out _ _ HB_u241.out (fun hHeld => ?_)
          clear hK K
          refine norm_ (a' := ?_) ?_ ?_
          rotate_left
          · show Act.put _ (some 51) _ = _
            simp only [Act.put, List.setIfInBounds_toArray, List.set_cons_zero, List.set_cons_succ, i64_w, i32_w]
            rfl
          have hzz := (HT_u239_u241.out.block _ (Array.getElem?_eq_some_iff.1 HZ_u239.out).1).trans HZ_u239.out
          have hnn : NIn u241 (fun b => b < u241.heap.size ∧ b ≠ u203.heap.size) _ [.int .i64 u242, .int .i64 u243, .int .i64 u244, .int .i64 u245, .slice u246 u248 u249, .slice u247 u250 u251] := (HN_u241.out.move (fun b hb => (Below.refl u241.heap.size u241).block b hb.2)).mono (fun b hb => ⟨Nat.lt_of_lt_of_le hb.2 (Below.refl u241.heap.size u241).size, by have h1 := HZS_u239.out; have h2 := HT_u239_u240.out.size; omega⟩)
          have hput := HeldT.put hnn hzz rfl
          have hbp : Below x10.heap.size x10 (put6 u241 u203.heap.size 0 (.int .i64 u242) (.int .i64 u243) (.int .i64 u244) (.int .i64 u245) (.slice u246 u248 u249) (.slice u247 u250 u251)) := put6_below HB_u241.out HB_u203.out.size _ _ _ _ _ _ _
          have HPUT := Lib.hid hput
          have HBP := Lib.hid hbp
          have d0 := cell_heap (i := 0) hzz rfl
          have d1 := cell_heap (i := 1) hzz rfl
          have d2 := cell_heap (i := 2) hzz rfl
          have d3 := cell_heap (i := 3) hzz rfl
          have d4 := cell_heap (i := 4) hzz rfl
          have d5 := cell_heap (i := 5) hzz rfl
          have q0 : ∀ o, u241.frozen? ⟨u203.heap.size, o, none⟩ = false := fun o => by simp [World.frozen?, hzz]
          clear hzz hnn hput hbp hHeld
          refine last_ (i := 8) (N := none) #[true, true, true, true, true, true, true, true, true] rfl rfl (one_of HT_.out (by kernel_rfl)) (by decide) (fun K hK => ?_)
          refine skip_ (w1 := ?_) (by rfl) rfl ?_ ?_
          rotate_left
          · go_simp
            rfl
          refine hK.out _ _ ?_
          clear hK K d0 d1 d2 d3 d4 d5 q0
          refine done_ (done_of HT_.out (by kernel_rfl)) ?_
          clear HT_
          go_wp2_with fail
          go_meet
          exact ⟨u203.heap.size, rfl, ⟨HBP.out, HPUT.out⟩⟩
      · skip
        refine value_ (v := .pointer (some ⟨u202.heap.size, 0, none⟩)) (w1 := u202.alloc (.cells #[.int .i64 0, .int .i64 0, .int .i64 0, .int .i64 0, .slice none 0 0, .slice none 0 0] 44)) (by rfl) rfl (by go_simp; first | done | rfl) ?_
        obtain ⟨u252, hnw⟩ : ∃ x, x = u202.alloc (.cells #[.int .i64 0, .int .i64 0, .int .i64 0, .int .i64 0, .slice none 0 0, .slice none 0 0] 44) := ⟨_, rfl⟩
        rw [← hnw]
        have hB : Below u202.heap.size u202 u252 := by rw [hnw]; exact (Below.refl _ u202).alloc (Nat.le_refl _) _
        have HZ_u252 := Lib.hid (show u252.heap[u202.heap.size]? = some (.cells #[.int .i64 0, .int .i64 0, .int .i64 0, .int .i64 0, .slice none 0 0, .slice none 0 0] 44 (0, 0)) by rw [hnw]; exact World.alloc_heap_new u202 _)
        have HZS_u252 := Lib.hid (show u252.heap.size = u202.heap.size + 1 by rw [hnw]; simp)
        clear hnw
        have HT_u202_u252 := Lib.hid hB
        have HB_u252 := Lib.hid (HB_u202.out.trans (hB.mono HB_u202.out.size))
        clear hB hHeld
        refine hK.out _ _ HB_u252.out (fun hHeld => ?_)
        clear hK K
        refine norm_ (a' := ?_) ?_ ?_
        rotate_left
        · show Act.put _ (some 11) _ = _
          simp only [Act.put, List.setIfInBounds_toArray, List.set_cons_zero, List.set_cons_succ, i64_w, i32_w]
          rfl
        refine one_ (i := 3) (N := some 48) #[true, true, true, true, true, false, false, true, false] rfl rfl (one_of HT_.out (by kernel_rfl)) (by decide) (fun K hK => ?_)
        refine goes_ Try.func56 (by kernel_rfl) rfl #[.slice (some ⟨u201.heap.size, 0, none⟩) 2 2] (by rfl) rfl rfl (by (try simp only [List.map_toArray, List.map_cons, List.map_nil]); first | done | rfl) ?_
        have hrb := (HT_u202_u252.out.block _ (Array.getElem?_eq_some_iff.1 HR_u202.out).1).trans HR_u202.out
        refine (alt_of2 u252 _ (.mk k0 m0 l0 hh0 r0 s0) (.mk k1 m1 l1 hh1 r1 s1) [.int .i64 k0, .int .i64 m0, .int .i64 l0, .int .i64 hh0, .slice ar0 r0.length cr0, .slice ak0 s0.length ck0] [.int .i64 k1, .int .i64 m1, .int .i64 l1, .int .i64 hh1, .slice ar1 r1.length cr1, .slice ak1 s1.length ck1] hrb ((G0.out.move (fun b hb => (HB_u252.out.block b (Nat.lt_of_lt_of_le hb HJ_x10.out.bel.size)).trans (HJ_x10.out.bel.block b hb))).mono (fun b hb => Nat.lt_of_lt_of_le hb (Nat.le_trans HJ_x10.out.bel.size HB_u252.out.size))) ((G1.out.move (fun b hb => (HB_u252.out.block b (Nat.lt_of_lt_of_le hb HJ_x10.out.bel.size)).trans (HJ_x10.out.bel.block b hb))).mono (fun b hb => Nat.lt_of_lt_of_le hb (Nat.le_trans HJ_x10.out.bel.size HB_u252.out.size))) (by have hnd := HND.out; omega)).mono ?_
        rintro e u253 ⟨u254, u255, u256, u257, u258, u259, u260, u261, u262, u263, rfl, hNn, hB⟩
        have HN_u253 := Lib.hid hNn
        clear hNn hrb
        refine ⟨_, rfl, ?_⟩
        have HT_u202_u253 := Lib.hid (HT_u202_u252.out.trans (hB.mono HT_u202_u252.out.size))
        have HT_u252_u253 := Lib.hid hB
        have HB_u253 := Lib.hid (HB_u252.out.trans (hB.mono HB_u252.out.size))
        clear hB hHeld
        refine hK.out _ _ HB_u253.out (fun hHeld => ?_)
        clear hK K
        refine norm_ (a' := ?_) ?_ ?_
        rotate_left
        · show Act.put _ (some 48) _ = _
          simp only [Act.put, List.setIfInBounds_toArray, List.set_cons_zero, List.set_cons_succ, i64_w, i32_w]
          rfl
        refine one_ (i := 5) (N := some 50) #[true, true, true, true, true, true, false, true, false] rfl rfl (one_of HT_.out (by kernel_rfl)) (by decide) (fun K hK => ?_)
        refine value_ (v := .slice (some ⟨u253.heap.size, 0, none⟩) 2 2) (w1 := u253.alloc (.cells #[.int .i64 u254, .int .i64 u255, .int .i64 u256, .int .i64 u257, .slice u258 u260 u261, .slice u259 u262 u263, .int .i64 k2, .int .i64 m2, .int .i64 l2, .int .i64 hh2, .slice ar2 r2.length cr2, .slice ak2 s2.length ck2] 44)) (by rfl) rfl (by go_simp; first | done | rfl) ?_
        obtain ⟨u264, hnw⟩ : ∃ x, x = u253.alloc (.cells #[.int .i64 u254, .int .i64 u255, .int .i64 u256, .int .i64 u257, .slice u258 u260 u261, .slice u259 u262 u263, .int .i64 k2, .int .i64 m2, .int .i64 l2, .int .i64 hh2, .slice ar2 r2.length cr2, .slice ak2 s2.length ck2] 44) := ⟨_, rfl⟩
        rw [← hnw]
        have hB : Below u253.heap.size u253 u264 := by rw [hnw]; exact (Below.refl _ u253).alloc (Nat.le_refl _) _
        have HR_u264 := Lib.hid (show u264.heap[u253.heap.size]? = some (.cells #[.int .i64 u254, .int .i64 u255, .int .i64 u256, .int .i64 u257, .slice u258 u260 u261, .slice u259 u262 u263, .int .i64 k2, .int .i64 m2, .int .i64 l2, .int .i64 hh2, .slice ar2 r2.length cr2, .slice ak2 s2.length ck2] 44 (0, 0)) by rw [hnw]; exact World.alloc_heap_new u253 _)
        clear hnw
        have HT_u202_u264 := Lib.hid (HT_u202_u253.out.trans (hB.mono HT_u202_u253.out.size))
        have HT_u252_u264 := Lib.hid (HT_u252_u253.out.trans (hB.mono HT_u252_u253.out.size))
        have HT_u253_u264 := Lib.hid hB
        have HB_u264 := Lib.hid (HB_u253.out.trans (hB.mono HB_u253.out.size))
        clear hB hHeld
        refine hK.out _ _ HB_u264.out (fun hHeld => ?_)
        clear hK K
        refine norm_ (a' := ?_) ?_ ?_
        rotate_left
        · show Act.put _ (some 50) _ = _
          simp only [Act.put, List.setIfInBounds_toArray, List.set_cons_zero, List.set_cons_succ, i64_w, i32_w]
          rfl
        refine one_ (i := 6) (N := some 51) #[true, true, true, true, true, true, true, true, false] rfl rfl (one_of HT_.out (by kernel_rfl)) (by decide) (fun K hK => ?_)
        refine goes_ Try.func56 (by kernel_rfl) rfl #[.slice (some ⟨u253.heap.size, 0, none⟩) 2 2] (by rfl) rfl rfl (by (try simp only [List.map_toArray, List.map_cons, List.map_nil]); first | done | rfl) ?_
        have hrb := ((Below.refl u264.heap.size u264).block _ (Array.getElem?_eq_some_iff.1 HR_u264.out).1).trans HR_u264.out
        refine (alt_of2 u264 _ (altT [.mk k0 m0 l0 hh0 r0 s0, .mk k1 m1 l1 hh1 r1 s1]) (.mk k2 m2 l2 hh2 r2 s2) [.int .i64 u254, .int .i64 u255, .int .i64 u256, .int .i64 u257, .slice u258 u260 u261, .slice u259 u262 u263] [.int .i64 k2, .int .i64 m2, .int .i64 l2, .int .i64 hh2, .slice ar2 r2.length cr2, .slice ak2 s2.length ck2] hrb ((HN_u253.out.move (fun b hb => HT_u253_u264.out.block b hb.2)).mono (fun b hb => Nat.lt_of_lt_of_le hb.2 HT_u253_u264.out.size)) ((G2.out.move (fun b hb => (HB_u264.out.block b (Nat.lt_of_lt_of_le hb HJ_x10.out.bel.size)).trans (HJ_x10.out.bel.block b hb))).mono (fun b hb => Nat.lt_of_lt_of_le hb (Nat.le_trans HJ_x10.out.bel.size HB_u264.out.size))) (by have hnd := HND.out; have := altT_nodes [.mk k0 m0 l0 hh0 r0 s0, .mk k1 m1 l1 hh1 r1 s1]; simp only [NT.nodesL] at this; omega)).mono ?_
        rintro e u265 ⟨u266, u267, u268, u269, u270, u271, u272, u273, u274, u275, rfl, hNn, hB⟩
        have HN_u265 := Lib.hid hNn
        clear hNn hrb
        refine ⟨_, rfl, ?_⟩
        have HT_u202_u265 := Lib.hid (HT_u202_u264.out.trans (hB.mono HT_u202_u264.out.size))
        have HT_u252_u265 := Lib.hid (HT_u252_u264.out.trans (hB.mono HT_u252_u264.out.size))
        have HT_u253_u265 := Lib.hid (HT_u253_u264.out.trans (hB.mono HT_u253_u264.out.size))
        have HT_u264_u265 := Lib.hid hB
        have HB_u265 := Lib.hid (HB_u264.out.trans (hB.mono HB_u264.out.size))
        clear hB hHeld
        refine hK.out _ _ HB_u265.out (fun hHeld => ?_)
        clear hK K
        refine norm_ (a' := ?_) ?_ ?_
        rotate_left
        · show Act.put _ (some 51) _ = _
          simp only [Act.put, List.setIfInBounds_toArray, List.set_cons_zero, List.set_cons_succ, i64_w, i32_w]
          rfl
        have hzz := (HT_u252_u265.out.block _ (Array.getElem?_eq_some_iff.1 HZ_u252.out).1).trans HZ_u252.out
        have hnn : NIn u265 (fun b => b < u265.heap.size ∧ b ≠ u202.heap.size) _ [.int .i64 u266, .int .i64 u267, .int .i64 u268, .int .i64 u269, .slice u270 u272 u273, .slice u271 u274 u275] := (HN_u265.out.move (fun b hb => (Below.refl u265.heap.size u265).block b hb.2)).mono (fun b hb => ⟨Nat.lt_of_lt_of_le hb.2 (Below.refl u265.heap.size u265).size, by have h1 := HZS_u252.out; have h2 := HT_u252_u264.out.size; omega⟩)
        have hput := HeldT.put hnn hzz rfl
        have hbp : Below x10.heap.size x10 (put6 u265 u202.heap.size 0 (.int .i64 u266) (.int .i64 u267) (.int .i64 u268) (.int .i64 u269) (.slice u270 u272 u273) (.slice u271 u274 u275)) := put6_below HB_u265.out HB_u202.out.size _ _ _ _ _ _ _
        have HPUT := Lib.hid hput
        have HBP := Lib.hid hbp
        have d0 := cell_heap (i := 0) hzz rfl
        have d1 := cell_heap (i := 1) hzz rfl
        have d2 := cell_heap (i := 2) hzz rfl
        have d3 := cell_heap (i := 3) hzz rfl
        have d4 := cell_heap (i := 4) hzz rfl
        have d5 := cell_heap (i := 5) hzz rfl
        have q0 : ∀ o, u265.frozen? ⟨u202.heap.size, o, none⟩ = false := fun o => by simp [World.frozen?, hzz]
        clear hzz hnn hput hbp hHeld
        refine last_ (i := 8) (N := none) #[true, true, true, true, true, true, true, true, true] rfl rfl (one_of HT_.out (by kernel_rfl)) (by decide) (fun K hK => ?_)
        refine skip_ (w1 := ?_) (by rfl) rfl ?_ ?_
        rotate_left
        · go_simp
          rfl
        refine hK.out _ _ ?_
        clear hK K d0 d1 d2 d3 d4 d5 q0
        refine done_ (done_of HT_.out (by kernel_rfl)) ?_
        clear HT_
        go_wp2_with fail
        go_meet
        exact ⟨u202.heap.size, rfl, ⟨HBP.out, HPUT.out⟩⟩
    · skip
      refine value_ (v := .pointer (some ⟨u201.heap.size, 0, none⟩)) (w1 := u201.alloc (.cells #[.int .i64 0, .int .i64 0, .int .i64 0, .int .i64 0, .slice none 0 0, .slice none 0 0] 44)) (by rfl) rfl (by go_simp; first | done | rfl) ?_
      obtain ⟨u276, hnw⟩ : ∃ x, x = u201.alloc (.cells #[.int .i64 0, .int .i64 0, .int .i64 0, .int .i64 0, .slice none 0 0, .slice none 0 0] 44) := ⟨_, rfl⟩
      rw [← hnw]
      have hB : Below u201.heap.size u201 u276 := by rw [hnw]; exact (Below.refl _ u201).alloc (Nat.le_refl _) _
      have HZ_u276 := Lib.hid (show u276.heap[u201.heap.size]? = some (.cells #[.int .i64 0, .int .i64 0, .int .i64 0, .int .i64 0, .slice none 0 0, .slice none 0 0] 44 (0, 0)) by rw [hnw]; exact World.alloc_heap_new u201 _)
      have HZS_u276 := Lib.hid (show u276.heap.size = u201.heap.size + 1 by rw [hnw]; simp)
      clear hnw
      have HB_u276 := Lib.hid (HB0x10.out.trans (hB.mono HB0x10.out.size))
      clear hB hHeld
      refine hK.out _ _ HB_u276.out (fun hHeld => ?_)
      clear hK K
      refine norm_ (a' := ?_) ?_ ?_
      rotate_left
      · show Act.put _ (some 11) _ = _
        simp only [Act.put, List.setIfInBounds_toArray, List.set_cons_zero, List.set_cons_succ, i64_w, i32_w]
        rfl
      refine one_ (i := 2) (N := some 47) #[true, true, true, false, true, false, false, true, false] rfl rfl (one_of HT_.out (by kernel_rfl)) (by decide) (fun K hK => ?_)
      refine value_ (v := .slice (some ⟨u276.heap.size, 0, none⟩) 2 2) (w1 := u276.alloc (.cells #[.int .i64 k0, .int .i64 m0, .int .i64 l0, .int .i64 hh0, .slice ar0 r0.length cr0, .slice ak0 s0.length ck0, .int .i64 k1, .int .i64 m1, .int .i64 l1, .int .i64 hh1, .slice ar1 r1.length cr1, .slice ak1 s1.length ck1] 44)) (by rfl) rfl (by go_simp; first | done | rfl) ?_
      obtain ⟨u277, hnw⟩ : ∃ x, x = u276.alloc (.cells #[.int .i64 k0, .int .i64 m0, .int .i64 l0, .int .i64 hh0, .slice ar0 r0.length cr0, .slice ak0 s0.length ck0, .int .i64 k1, .int .i64 m1, .int .i64 l1, .int .i64 hh1, .slice ar1 r1.length cr1, .slice ak1 s1.length ck1] 44) := ⟨_, rfl⟩
      rw [← hnw]
      have hB : Below u276.heap.size u276 u277 := by rw [hnw]; exact (Below.refl _ u276).alloc (Nat.le_refl _) _
      have HR_u277 := Lib.hid (show u277.heap[u276.heap.size]? = some (.cells #[.int .i64 k0, .int .i64 m0, .int .i64 l0, .int .i64 hh0, .slice ar0 r0.length cr0, .slice ak0 s0.length ck0, .int .i64 k1, .int .i64 m1, .int .i64 l1, .int .i64 hh1, .slice ar1 r1.length cr1, .slice ak1 s1.length ck1] 44 (0, 0)) by rw [hnw]; exact World.alloc_heap_new u276 _)
      clear hnw
      have HT_u276_u277 := Lib.hid hB
      have HB_u277 := Lib.hid (HB_u276.out.trans (hB.mono HB_u276.out.size))
      clear hB hHeld
      refine hK.out _ _ HB_u277.out (fun hHeld => ?_)
      clear hK K
      refine norm_ (a' := ?_) ?_ ?_
      rotate_left
      · show Act.put _ (some 47) _ = _
        simp only [Act.put, List.setIfInBounds_toArray, List.set_cons_zero, List.set_cons_succ, i64_w, i32_w]
        rfl
      refine one_ (i := 3) (N := some 48) #[true, true, true, true, true, false, false, true, false] rfl rfl (one_of HT_.out (by kernel_rfl)) (by decide) (fun K hK => ?_)
      refine goes_ Try.func56 (by kernel_rfl) rfl #[.slice (some ⟨u276.heap.size, 0, none⟩) 2 2] (by rfl) rfl rfl (by (try simp only [List.map_toArray, List.map_cons, List.map_nil]); first | done | rfl) ?_
      have hrb := ((Below.refl u277.heap.size u277).block _ (Array.getElem?_eq_some_iff.1 HR_u277.out).1).trans HR_u277.out
      refine (alt_of2 u277 _ (.mk k0 m0 l0 hh0 r0 s0) (.mk k1 m1 l1 hh1 r1 s1) [.int .i64 k0, .int .i64 m0, .int .i64 l0, .int .i64 hh0, .slice ar0 r0.length cr0, .slice ak0 s0.length ck0] [.int .i64 k1, .int .i64 m1, .int .i64 l1, .int .i64 hh1, .slice ar1 r1.length cr1, .slice ak1 s1.length ck1] hrb ((G0.out.move (fun b hb => (HB_u277.out.block b (Nat.lt_of_lt_of_le hb HJ_x10.out.bel.size)).trans (HJ_x10.out.bel.block b hb))).mono (fun b hb => Nat.lt_of_lt_of_le hb (Nat.le_trans HJ_x10.out.bel.size HB_u277.out.size))) ((G1.out.move (fun b hb => (HB_u277.out.block b (Nat.lt_of_lt_of_le hb HJ_x10.out.bel.size)).trans (HJ_x10.out.bel.block b hb))).mono (fun b hb => Nat.lt_of_lt_of_le hb (Nat.le_trans HJ_x10.out.bel.size HB_u277.out.size))) (by have hnd := HND.out; omega)).mono ?_
      rintro e u278 ⟨u279, u280, u281, u282, u283, u284, u285, u286, u287, u288, rfl, hNn, hB⟩
      have HN_u278 := Lib.hid hNn
      clear hNn hrb
      refine ⟨_, rfl, ?_⟩
      have HT_u276_u278 := Lib.hid (HT_u276_u277.out.trans (hB.mono HT_u276_u277.out.size))
      have HT_u277_u278 := Lib.hid hB
      have HB_u278 := Lib.hid (HB_u277.out.trans (hB.mono HB_u277.out.size))
      clear hB hHeld
      refine hK.out _ _ HB_u278.out (fun hHeld => ?_)
      clear hK K
      refine norm_ (a' := ?_) ?_ ?_
      rotate_left
      · show Act.put _ (some 48) _ = _
        simp only [Act.put, List.setIfInBounds_toArray, List.set_cons_zero, List.set_cons_succ, i64_w, i32_w]
        rfl
      refine one_ (i := 5) (N := some 50) #[true, true, true, true, true, true, false, true, false] rfl rfl (one_of HT_.out (by kernel_rfl)) (by decide) (fun K hK => ?_)
      refine value_ (v := .slice (some ⟨u278.heap.size, 0, none⟩) 2 2) (w1 := u278.alloc (.cells #[.int .i64 u279, .int .i64 u280, .int .i64 u281, .int .i64 u282, .slice u283 u285 u286, .slice u284 u287 u288, .int .i64 k2, .int .i64 m2, .int .i64 l2, .int .i64 hh2, .slice ar2 r2.length cr2, .slice ak2 s2.length ck2] 44)) (by rfl) rfl (by go_simp; first | done | rfl) ?_
      obtain ⟨u289, hnw⟩ : ∃ x, x = u278.alloc (.cells #[.int .i64 u279, .int .i64 u280, .int .i64 u281, .int .i64 u282, .slice u283 u285 u286, .slice u284 u287 u288, .int .i64 k2, .int .i64 m2, .int .i64 l2, .int .i64 hh2, .slice ar2 r2.length cr2, .slice ak2 s2.length ck2] 44) := ⟨_, rfl⟩
      rw [← hnw]
      have hB : Below u278.heap.size u278 u289 := by rw [hnw]; exact (Below.refl _ u278).alloc (Nat.le_refl _) _
      have HR_u289 := Lib.hid (show u289.heap[u278.heap.size]? = some (.cells #[.int .i64 u279, .int .i64 u280, .int .i64 u281, .int .i64 u282, .slice u283 u285 u286, .slice u284 u287 u288, .int .i64 k2, .int .i64 m2, .int .i64 l2, .int .i64 hh2, .slice ar2 r2.length cr2, .slice ak2 s2.length ck2] 44 (0, 0)) by rw [hnw]; exact World.alloc_heap_new u278 _)
      clear hnw
      have HT_u276_u289 := Lib.hid (HT_u276_u278.out.trans (hB.mono HT_u276_u278.out.size))
      have HT_u277_u289 := Lib.hid (HT_u277_u278.out.trans (hB.mono HT_u277_u278.out.size))
      have HT_u278_u289 := Lib.hid hB
      have HB_u289 := Lib.hid (HB_u278.out.trans (hB.mono HB_u278.out.size))
      clear hB hHeld
      refine hK.out _ _ HB_u289.out (fun hHeld => ?_)
      clear hK K
      refine norm_ (a' := ?_) ?_ ?_
      rotate_left
      · show Act.put _ (some 50) _ = _
        simp only [Act.put, List.setIfInBounds_toArray, List.set_cons_zero, List.set_cons_succ, i64_w, i32_w]
        rfl
      refine one_ (i := 6) (N := some 51) #[true, true, true, true, true, true, true, true, false] rfl rfl (one_of HT_.out (by kernel_rfl)) (by decide) (fun K hK => ?_)
      refine goes_ Try.func56 (by kernel_rfl) rfl #[.slice (some ⟨u278.heap.size, 0, none⟩) 2 2] (by rfl) rfl rfl (by (try simp only [List.map_toArray, List.map_cons, List.map_nil]); first | done | rfl) ?_
      have hrb := ((Below.refl u289.heap.size u289).block _ (Array.getElem?_eq_some_iff.1 HR_u289.out).1).trans HR_u289.out
      refine (alt_of2 u289 _ (altT [.mk k0 m0 l0 hh0 r0 s0, .mk k1 m1 l1 hh1 r1 s1]) (.mk k2 m2 l2 hh2 r2 s2) [.int .i64 u279, .int .i64 u280, .int .i64 u281, .int .i64 u282, .slice u283 u285 u286, .slice u284 u287 u288] [.int .i64 k2, .int .i64 m2, .int .i64 l2, .int .i64 hh2, .slice ar2 r2.length cr2, .slice ak2 s2.length ck2] hrb ((HN_u278.out.move (fun b hb => HT_u278_u289.out.block b hb.2)).mono (fun b hb => Nat.lt_of_lt_of_le hb.2 HT_u278_u289.out.size)) ((G2.out.move (fun b hb => (HB_u289.out.block b (Nat.lt_of_lt_of_le hb HJ_x10.out.bel.size)).trans (HJ_x10.out.bel.block b hb))).mono (fun b hb => Nat.lt_of_lt_of_le hb (Nat.le_trans HJ_x10.out.bel.size HB_u289.out.size))) (by have hnd := HND.out; have := altT_nodes [.mk k0 m0 l0 hh0 r0 s0, .mk k1 m1 l1 hh1 r1 s1]; simp only [NT.nodesL] at this; omega)).mono ?_
      rintro e u290 ⟨u291, u292, u293, u294, u295, u296, u297, u298, u299, u300, rfl, hNn, hB⟩
      have HN_u290 := Lib.hid hNn
      clear hNn hrb
      refine ⟨_, rfl, ?_⟩
      have HT_u276_u290 := Lib.hid (HT_u276_u289.out.trans (hB.mono HT_u276_u289.out.size))
      have HT_u277_u290 := Lib.hid (HT_u277_u289.out.trans (hB.mono HT_u277_u289.out.size))
      have HT_u278_u290 := Lib.hid (HT_u278_u289.out.trans (hB.mono HT_u278_u289.out.size))
      have HT_u289_u290 := Lib.hid hB
      have HB_u290 := Lib.hid (HB_u289.out.trans (hB.mono HB_u289.out.size))
      clear hB hHeld
      refine hK.out _ _ HB_u290.out (fun hHeld => ?_)
      clear hK K
      refine norm_ (a' := ?_) ?_ ?_
      rotate_left
      · show Act.put _ (some 51) _ = _
        simp only [Act.put, List.setIfInBounds_toArray, List.set_cons_zero, List.set_cons_succ, i64_w, i32_w]
        rfl
      have hzz := (HT_u276_u290.out.block _ (Array.getElem?_eq_some_iff.1 HZ_u276.out).1).trans HZ_u276.out
      have hnn : NIn u290 (fun b => b < u290.heap.size ∧ b ≠ u201.heap.size) _ [.int .i64 u291, .int .i64 u292, .int .i64 u293, .int .i64 u294, .slice u295 u297 u298, .slice u296 u299 u300] := (HN_u290.out.move (fun b hb => (Below.refl u290.heap.size u290).block b hb.2)).mono (fun b hb => ⟨Nat.lt_of_lt_of_le hb.2 (Below.refl u290.heap.size u290).size, by have h1 := HZS_u276.out; have h2 := HT_u276_u289.out.size; omega⟩)
      have hput := HeldT.put hnn hzz rfl
      have hbp : Below x10.heap.size x10 (put6 u290 u201.heap.size 0 (.int .i64 u291) (.int .i64 u292) (.int .i64 u293) (.int .i64 u294) (.slice u295 u297 u298) (.slice u296 u299 u300)) := put6_below HB_u290.out HB0x10.out.size _ _ _ _ _ _ _
      have HPUT := Lib.hid hput
      have HBP := Lib.hid hbp
      have d0 := cell_heap (i := 0) hzz rfl
      have d1 := cell_heap (i := 1) hzz rfl
      have d2 := cell_heap (i := 2) hzz rfl
      have d3 := cell_heap (i := 3) hzz rfl
      have d4 := cell_heap (i := 4) hzz rfl
      have d5 := cell_heap (i := 5) hzz rfl
      have q0 : ∀ o, u290.frozen? ⟨u201.heap.size, o, none⟩ = false := fun o => by simp [World.frozen?, hzz]
      clear hzz hnn hput hbp hHeld
      refine last_ (i := 8) (N := none) #[true, true, true, true, true, true, true, true, true] rfl rfl (one_of HT_.out (by kernel_rfl)) (by decide) (fun K hK => ?_)
      refine skip_ (w1 := ?_) (by rfl) rfl ?_ ?_
      rotate_left
      · go_simp
        rfl
      refine hK.out _ _ ?_
      clear hK K d0 d1 d2 d3 d4 d5 q0
      refine done_ (done_of HT_.out (by kernel_rfl)) ?_
      clear HT_
      go_wp2_with fail
      go_meet
      exact ⟨u201.heap.size, rfl, ⟨HBP.out, HPUT.out⟩⟩
  case rest =>
    obtain ⟨B11, rfl, hx⟩ := hcut
    obtain ⟨x11, rfl⟩ : ∃ x : World, x = wc := ⟨_, rfl⟩
    have HJ_x11 := Lib.hid (HJ_x10.out.below hx.out.1)
    have HH8_x11 := Lib.hid (HH8_x10.out.below hx.out.1)
    have HH9_x11 := Lib.hid (HH9_x10.out.below hx.out.1)
    have HH10_x11 := Lib.hid (HH10_x10.out.below hx.out.1)
    have HH11_x11 := Lib.hid hx.out.2
    clear hx HJ_x10 HH8_x10 HH9_x10 HH10_x10
    go_upto_region 8 with (fail)
    go_cut [12] (fun s12 wx => ∃ B : Nat, s12 = .pointer (some ⟨B, 0, none⟩) ∧ Aside0 (Below x11.heap.size x11 wx ∧ HeldT wx B (altT [.mk k0 m0 l0 hh0 r0 s0, altT [.mk k1 m1 l1 hh1 r1 s1, .mk k2 m2 l2 hh2 r2 s2]])))
    case first =>
      have HB0x11 := Lib.hid (show Below x11.heap.size x11 x11.drew from (Below.refl _ x11).drew)
      refine start_ (n := 9) (S := fun w' => Below x11.heap.size x11 w') (ds := [8]) #[false, false, false, false, false, false, false, false, false] (by kernel_rfl) rfl rfl HB0x11.out (fun hHeld => ?_)
      refine with_self (fun HT_ => ?_)
      generalize x11.drew = u301 at HB0x11 hHeld ⊢
      refine take_ (i := 0) (N := some 52) (v := ?_) (a' := ?_) #[true, false, false, false, false, false, false, false, false] rfl rfl (take_of HT_.out (by kernel_rfl)) (fun _ _ _ h => h) (Or.inl ⟨by rfl, ?_⟩) hHeld ?_ ?_
      rotate_left
      · intro w' hS
        have hz := (hS.block _ (by have := HJ_x11.out.sz; omega)).trans HJ_x11.out.n0
        have n0 := cell_heap (i := 0) hz rfl
        have n1 := cell_heap (i := 1) hz rfl
        have n2 := cell_heap (i := 2) hz rfl
        have n3 := cell_heap (i := 3) hz rfl
        have n4 := cell_heap (i := 4) hz rfl
        have n5 := cell_heap (i := 5) hz rfl
        clear hz
        clear hS
        go_simp
        with_reducible rfl
      rotate_left
      · simp only [Act.put, List.setIfInBounds_toArray, List.set_cons_zero, List.set_cons_succ, i64_w, i32_w]
        rfl
      refine take_ (i := 1) (N := some 53) (v := ?_) (a' := ?_) #[true, true, false, false, false, false, false, false, false] rfl rfl (take_of HT_.out (by kernel_rfl)) (fun _ _ _ h => h) (Or.inl ⟨by rfl, ?_⟩) hHeld ?_ ?_
      rotate_left
      · intro w' hS
        have hz := (hS.block _ (by have := HJ_x11.out.sz; omega)).trans HJ_x11.out.n1
        have n0 := cell_heap (i := 0) hz rfl
        have n1 := cell_heap (i := 1) hz rfl
        have n2 := cell_heap (i := 2) hz rfl
        have n3 := cell_heap (i := 3) hz rfl
        have n4 := cell_heap (i := 4) hz rfl
        have n5 := cell_heap (i := 5) hz rfl
        clear hz
        clear hS
        go_simp
        with_reducible rfl
      rotate_left
      · simp only [Act.put, List.setIfInBounds_toArray, List.set_cons_zero, List.set_cons_succ, i64_w, i32_w]
        rfl
      refine take_ (i := 2) (N := some 54) (v := ?_) (a' := ?_) #[true, true, true, false, false, false, false, false, false] rfl rfl (take_of HT_.out (by kernel_rfl)) (fun _ _ _ h => h) (Or.inl ⟨by rfl, ?_⟩) hHeld ?_ ?_
      rotate_left
      · intro w' hS
        have hz := (hS.block _ (by have := HJ_x11.out.sz; omega)).trans HJ_x11.out.n2
        have n0 := cell_heap (i := 0) hz rfl
        have n1 := cell_heap (i := 1) hz rfl
        have n2 := cell_heap (i := 2) hz rfl
        have n3 := cell_heap (i := 3) hz rfl
        have n4 := cell_heap (i := 4) hz rfl
        have n5 := cell_heap (i := 5) hz rfl
        clear hz
        clear hS
        go_simp
        with_reducible rfl
      rotate_left
      · simp only [Act.put, List.setIfInBounds_toArray, List.set_cons_zero, List.set_cons_succ, i64_w, i32_w]
        rfl
      refine two_ (i := 3) (j := 7) (Ni := some 55) (Nj := some 12) #[true, true, true, true, false, false, false, false, false] #[true, true, true, false, false, false, false, true, false] rfl rfl rfl rfl HT_.out (by kernel_rfl) (by decide) (by decide) (fun K hK => ?_) (fun K hK => ?_)
      · skip
        refine value_ (v := .slice (some ⟨u301.heap.size, 0, none⟩) 2 2) (w1 := u301.alloc (.cells #[.int .i64 k1, .int .i64 m1, .int .i64 l1, .int .i64 hh1, .slice ar1 r1.length cr1, .slice ak1 s1.length ck1, .int .i64 k2, .int .i64 m2, .int .i64 l2, .int .i64 hh2, .slice ar2 r2.length cr2, .slice ak2 s2.length ck2] 44)) (by rfl) rfl (by go_simp; first | done | rfl) ?_
        obtain ⟨u302, hnw⟩ : ∃ x, x = u301.alloc (.cells #[.int .i64 k1, .int .i64 m1, .int .i64 l1, .int .i64 hh1, .slice ar1 r1.length cr1, .slice ak1 s1.length ck1, .int .i64 k2, .int .i64 m2, .int .i64 l2, .int .i64 hh2, .slice ar2 r2.length cr2, .slice ak2 s2.length ck2] 44) := ⟨_, rfl⟩
        rw [← hnw]
        have hB : Below u301.heap.size u301 u302 := by rw [hnw]; exact (Below.refl _ u301).alloc (Nat.le_refl _) _
        have HR_u302 := Lib.hid (show u302.heap[u301.heap.size]? = some (.cells #[.int .i64 k1, .int .i64 m1, .int .i64 l1, .int .i64 hh1, .slice ar1 r1.length cr1, .slice ak1 s1.length ck1, .int .i64 k2, .int .i64 m2, .int .i64 l2, .int .i64 hh2, .slice ar2 r2.length cr2, .slice ak2 s2.length ck2] 44 (0, 0)) by rw [hnw]; exact World.alloc_heap_new u301 _)
        clear hnw
        have HB_u302 := Lib.hid (HB0x11.out.trans (hB.mono HB0x11.out.size))
        clear hB hHeld
        refine hK.out _ _ HB_u302.out (fun hHeld => ?_)
        clear hK K
        refine norm_ (a' := ?_) ?_ ?_
        rotate_left
        · show Act.put _ (some 55) _ = _
          simp only [Act.put, List.setIfInBounds_toArray, List.set_cons_zero, List.set_cons_succ, i64_w, i32_w]
          rfl
        refine two_ (i := 4) (j := 7) (Ni := some 56) (Nj := some 12) #[true, true, true, true, true, false, false, false, false] #[true, true, true, true, false, false, false, true, false] rfl rfl rfl rfl HT_.out (by kernel_rfl) (by decide) (by decide) (fun K hK => ?_) (fun K hK => ?_)
        · skip
          refine goes_ Try.func56 (by kernel_rfl) rfl #[.slice (some ⟨u301.heap.size, 0, none⟩) 2 2] (by rfl) rfl rfl (by (try simp only [List.map_toArray, List.map_cons, List.map_nil]); first | done | rfl) ?_
          have hrb := ((Below.refl u302.heap.size u302).block _ (Array.getElem?_eq_some_iff.1 HR_u302.out).1).trans HR_u302.out
          refine (alt_of2 u302 _ (.mk k1 m1 l1 hh1 r1 s1) (.mk k2 m2 l2 hh2 r2 s2) [.int .i64 k1, .int .i64 m1, .int .i64 l1, .int .i64 hh1, .slice ar1 r1.length cr1, .slice ak1 s1.length ck1] [.int .i64 k2, .int .i64 m2, .int .i64 l2, .int .i64 hh2, .slice ar2 r2.length cr2, .slice ak2 s2.length ck2] hrb ((G1.out.move (fun b hb => (HB_u302.out.block b (Nat.lt_of_lt_of_le hb HJ_x11.out.bel.size)).trans (HJ_x11.out.bel.block b hb))).mono (fun b hb => Nat.lt_of_lt_of_le hb (Nat.le_trans HJ_x11.out.bel.size HB_u302.out.size))) ((G2.out.move (fun b hb => (HB_u302.out.block b (Nat.lt_of_lt_of_le hb HJ_x11.out.bel.size)).trans (HJ_x11.out.bel.block b hb))).mono (fun b hb => Nat.lt_of_lt_of_le hb (Nat.le_trans HJ_x11.out.bel.size HB_u302.out.size))) (by have hnd := HND.out; omega)).mono ?_
          rintro e u303 ⟨u304, u305, u306, u307, u308, u309, u310, u311, u312, u313, rfl, hNn, hB⟩
          have HN_u303 := Lib.hid hNn
          clear hNn hrb
          refine ⟨_, rfl, ?_⟩
          have HT_u302_u303 := Lib.hid hB
          have HB_u303 := Lib.hid (HB_u302.out.trans (hB.mono HB_u302.out.size))
          clear hB hHeld
          refine hK.out _ _ HB_u303.out (fun hHeld => ?_)
          clear hK K
          refine norm_ (a' := ?_) ?_ ?_
          rotate_left
          · show Act.put _ (some 56) _ = _
            simp only [Act.put, List.setIfInBounds_toArray, List.set_cons_zero, List.set_cons_succ, i64_w, i32_w]
            rfl
          refine two_ (i := 5) (j := 7) (Ni := some 57) (Nj := some 12) #[true, true, true, true, true, true, false, false, false] #[true, true, true, true, true, false, false, true, false] rfl rfl rfl rfl HT_.out (by kernel_rfl) (by decide) (by decide) (fun K hK => ?_) (fun K hK => ?_)
          · skip
            refine value_ (v := .slice (some ⟨u303.heap.size, 0, none⟩) 2 2) (w1 := u303.alloc (.cells #[.int .i64 k0, .int .i64 m0, .int .i64 l0, .int .i64 hh0, .slice ar0 r0.length cr0, .slice ak0 s0.length ck0, .int .i64 u304, .int .i64 u305, .int .i64 u306, .int .i64 u307, .slice u308 u310 u311, .slice u309 u312 u313] 44)) (by rfl) rfl (by go_simp; first | done | rfl) ?_
            obtain ⟨u314, hnw⟩ : ∃ x, x = u303.alloc (.cells #[.int .i64 k0, .int .i64 m0, .int .i64 l0, .int .i64 hh0, .slice ar0 r0.length cr0, .slice ak0 s0.length ck0, .int .i64 u304, .int .i64 u305, .int .i64 u306, .int .i64 u307, .slice u308 u310 u311, .slice u309 u312 u313] 44) := ⟨_, rfl⟩
            rw [← hnw]
            have hB : Below u303.heap.size u303 u314 := by rw [hnw]; exact (Below.refl _ u303).alloc (Nat.le_refl _) _
            have HR_u314 := Lib.hid (show u314.heap[u303.heap.size]? = some (.cells #[.int .i64 k0, .int .i64 m0, .int .i64 l0, .int .i64 hh0, .slice ar0 r0.length cr0, .slice ak0 s0.length ck0, .int .i64 u304, .int .i64 u305, .int .i64 u306, .int .i64 u307, .slice u308 u310 u311, .slice u309 u312 u313] 44 (0, 0)) by rw [hnw]; exact World.alloc_heap_new u303 _)
            clear hnw
            have HT_u302_u314 := Lib.hid (HT_u302_u303.out.trans (hB.mono HT_u302_u303.out.size))
            have HT_u303_u314 := Lib.hid hB
            have HB_u314 := Lib.hid (HB_u303.out.trans (hB.mono HB_u303.out.size))
            clear hB hHeld
            refine hK.out _ _ HB_u314.out (fun hHeld => ?_)
            clear hK K
            refine norm_ (a' := ?_) ?_ ?_
            rotate_left
            · show Act.put _ (some 57) _ = _
              simp only [Act.put, List.setIfInBounds_toArray, List.set_cons_zero, List.set_cons_succ, i64_w, i32_w]
              rfl
            refine two_ (i := 6) (j := 7) (Ni := some 58) (Nj := some 12) #[true, true, true, true, true, true, true, false, false] #[true, true, true, true, true, true, false, true, false] rfl rfl rfl rfl HT_.out (by kernel_rfl) (by decide) (by decide) (fun K hK => ?_) (fun K hK => ?_)
            · skip
              refine goes_ Try.func56 (by kernel_rfl) rfl #[.slice (some ⟨u303.heap.size, 0, none⟩) 2 2] (by rfl) rfl rfl (by (try simp only [List.map_toArray, List.map_cons, List.map_nil]); first | done | rfl) ?_
              have hrb := ((Below.refl u314.heap.size u314).block _ (Array.getElem?_eq_some_iff.1 HR_u314.out).1).trans HR_u314.out
              refine (alt_of2 u314 _ (.mk k0 m0 l0 hh0 r0 s0) (altT [.mk k1 m1 l1 hh1 r1 s1, .mk k2 m2 l2 hh2 r2 s2]) [.int .i64 k0, .int .i64 m0, .int .i64 l0, .int .i64 hh0, .slice ar0 r0.length cr0, .slice ak0 s0.length ck0] [.int .i64 u304, .int .i64 u305, .int .i64 u306, .int .i64 u307, .slice u308 u310 u311, .slice u309 u312 u313] hrb ((G0.out.move (fun b hb => (HB_u314.out.block b (Nat.lt_of_lt_of_le hb HJ_x11.out.bel.size)).trans (HJ_x11.out.bel.block b hb))).mono (fun b hb => Nat.lt_of_lt_of_le hb (Nat.le_trans HJ_x11.out.bel.size HB_u314.out.size))) ((HN_u303.out.move (fun b hb => HT_u303_u314.out.block b hb.2)).mono (fun b hb => Nat.lt_of_lt_of_le hb.2 HT_u303_u314.out.size)) (by have hnd := HND.out; have := altT_nodes [.mk k1 m1 l1 hh1 r1 s1, .mk k2 m2 l2 hh2 r2 s2]; simp only [NT.nodesL] at this; omega)).mono ?_
              rintro e u315 ⟨u316, u317, u318, u319, u320, u321, u322, u323, u324, u325, rfl, hNn, hB⟩
              have HN_u315 := Lib.hid hNn
              clear hNn hrb
              refine ⟨_, rfl, ?_⟩
              have HT_u302_u315 := Lib.hid (HT_u302_u314.out.trans (hB.mono HT_u302_u314.out.size))
              have HT_u303_u315 := Lib.hid (HT_u303_u314.out.trans (hB.mono HT_u303_u314.out.size))
              have HT_u314_u315 := Lib.hid hB
              have HB_u315 := Lib.hid (HB_u314.out.trans (hB.mono HB_u314.out.size))
              clear hB hHeld
              refine hK.out _ _ HB_u315.out (fun hHeld => ?_)
              clear hK K
              refine norm_ (a' := ?_) ?_ ?_
              rotate_left
              · show Act.put _ (some 58) _ = _
                simp only [Act.put, List.setIfInBounds_toArray, List.set_cons_zero, List.set_cons_succ, i64_w, i32_w]
                rfl
              refine one_ (i := 7) (N := some 12) #[true, true, true, true, true, true, true, true, false] rfl rfl (one_of HT_.out (by kernel_rfl)) (by decide) (fun K hK => ?_)
              refine value_ (v := .pointer (some ⟨u315.heap.size, 0, none⟩)) (w1 := u315.alloc (.cells #[.int .i64 0, .int .i64 0, .int .i64 0, .int .i64 0, .slice none 0 0, .slice none 0 0] 44)) (by rfl) rfl (by go_simp; first | done | rfl) ?_
              obtain ⟨u326, hnw⟩ : ∃ x, x = u315.alloc (.cells #[.int .i64 0, .int .i64 0, .int .i64 0, .int .i64 0, .slice none 0 0, .slice none 0 0] 44) := ⟨_, rfl⟩
              rw [← hnw]
              have hB : Below u315.heap.size u315 u326 := by rw [hnw]; exact (Below.refl _ u315).alloc (Nat.le_refl _) _
              have HZ_u326 := Lib.hid (show u326.heap[u315.heap.size]? = some (.cells #[.int .i64 0, .int .i64 0, .int .i64 0, .int .i64 0, .slice none 0 0, .slice none 0 0] 44 (0, 0)) by rw [hnw]; exact World.alloc_heap_new u315 _)
              have HZS_u326 := Lib.hid (show u326.heap.size = u315.heap.size + 1 by rw [hnw]; simp)
              clear hnw
              have HT_u302_u326 := Lib.hid (HT_u302_u315.out.trans (hB.mono HT_u302_u315.out.size))
              have HT_u303_u326 := Lib.hid (HT_u303_u315.out.trans (hB.mono HT_u303_u315.out.size))
              have HT_u314_u326 := Lib.hid (HT_u314_u315.out.trans (hB.mono HT_u314_u315.out.size))
              have HT_u315_u326 := Lib.hid hB
              have HB_u326 := Lib.hid (HB_u315.out.trans (hB.mono HB_u315.out.size))
              clear hB hHeld
              refine hK.out _ _ HB_u326.out (fun hHeld => ?_)
              clear hK K
              refine norm_ (a' := ?_) ?_ ?_
              rotate_left
              · show Act.put _ (some 12) _ = _
                simp only [Act.put, List.setIfInBounds_toArray, List.set_cons_zero, List.set_cons_succ, i64_w, i32_w]
                rfl
              have hzz := ((Below.refl u326.heap.size u326).block _ (Array.getElem?_eq_some_iff.1 HZ_u326.out).1).trans HZ_u326.out
              have hnn : NIn u326 (fun b => b < u326.heap.size ∧ b ≠ u315.heap.size) _ [.int .i64 u316, .int .i64 u317, .int .i64 u318, .int .i64 u319, .slice u320 u322 u323, .slice u321 u324 u325] := (HN_u315.out.move (fun b hb => HT_u315_u326.out.block b hb.2)).mono (fun b hb => ⟨Nat.lt_of_lt_of_le hb.2 HT_u315_u326.out.size, by have h1 := HZS_u326.out; omega⟩)
              have hput := HeldT.put hnn hzz rfl
              have hbp : Below x11.heap.size x11 (put6 u326 u315.heap.size 0 (.int .i64 u316) (.int .i64 u317) (.int .i64 u318) (.int .i64 u319) (.slice u320 u322 u323) (.slice u321 u324 u325)) := put6_below HB_u326.out HB_u315.out.size _ _ _ _ _ _ _
              have HPUT := Lib.hid hput
              have HBP := Lib.hid hbp
              have d0 := cell_heap (i := 0) hzz rfl
              have d1 := cell_heap (i := 1) hzz rfl
              have d2 := cell_heap (i := 2) hzz rfl
              have d3 := cell_heap (i := 3) hzz rfl
              have d4 := cell_heap (i := 4) hzz rfl
              have d5 := cell_heap (i := 5) hzz rfl
              have q0 : ∀ o, u326.frozen? ⟨u315.heap.size, o, none⟩ = false := fun o => by simp [World.frozen?, hzz]
              clear hzz hnn hput hbp hHeld
              refine last_ (i := 8) (N := none) #[true, true, true, true, true, true, true, true, true] rfl rfl (one_of HT_.out (by kernel_rfl)) (by decide) (fun K hK => ?_)
              refine skip_ (w1 := ?_) (by rfl) rfl ?_ ?_
              rotate_left
              · go_simp
                rfl
              refine hK.out _ _ ?_
              clear hK K d0 d1 d2 d3 d4 d5 q0
              refine done_ (done_of HT_.out (by kernel_rfl)) ?_
              clear HT_
              go_wp2_with fail
              go_meet
              exact ⟨u315.heap.size, rfl, ⟨HBP.out, HPUT.out⟩⟩
            · skip
              refine value_ (v := .pointer (some ⟨u314.heap.size, 0, none⟩)) (w1 := u314.alloc (.cells #[.int .i64 0, .int .i64 0, .int .i64 0, .int .i64 0, .slice none 0 0, .slice none 0 0] 44)) (by rfl) rfl (by go_simp; first | done | rfl) ?_
              obtain ⟨u327, hnw⟩ : ∃ x, x = u314.alloc (.cells #[.int .i64 0, .int .i64 0, .int .i64 0, .int .i64 0, .slice none 0 0, .slice none 0 0] 44) := ⟨_, rfl⟩
              rw [← hnw]
              have hB : Below u314.heap.size u314 u327 := by rw [hnw]; exact (Below.refl _ u314).alloc (Nat.le_refl _) _
              have HZ_u327 := Lib.hid (show u327.heap[u314.heap.size]? = some (.cells #[.int .i64 0, .int .i64 0, .int .i64 0, .int .i64 0, .slice none 0 0, .slice none 0 0] 44 (0, 0)) by rw [hnw]; exact World.alloc_heap_new u314 _)
              have HZS_u327 := Lib.hid (show u327.heap.size = u314.heap.size + 1 by rw [hnw]; simp)
              clear hnw
              have HT_u302_u327 := Lib.hid (HT_u302_u314.out.trans (hB.mono HT_u302_u314.out.size))
              have HT_u303_u327 := Lib.hid (HT_u303_u314.out.trans (hB.mono HT_u303_u314.out.size))
              have HT_u314_u327 := Lib.hid hB
              have HB_u327 := Lib.hid (HB_u314.out.trans (hB.mono HB_u314.out.size))
              clear hB hHeld
              refine hK.out _ _ HB_u327.out (fun hHeld => ?_)
              clear hK K
              refine norm_ (a' := ?_) ?_ ?_
              rotate_left
              · show Act.put _ (some 12) _ = _
                simp only [Act.put, List.setIfInBounds_toArray, List.set_cons_zero, List.set_cons_succ, i64_w, i32_w]
                rfl
              refine one_ (i := 6) (N := some 58) #[true, true, true, true, true, true, true, true, false] rfl rfl (one_of HT_.out (by kernel_rfl)) (by decide) (fun K hK => ?_)
              refine goes_ Try.func56 (by kernel_rfl) rfl #[.slice (some ⟨u303.heap.size, 0, none⟩) 2 2] (by rfl) rfl rfl (by (try simp only [List.map_toArray, List.map_cons, List.map_nil]); first | done | rfl) ?_
              have hrb := (HT_u314_u327.out.block _ (Array.getElem?_eq_some_iff.1 HR_u314.out).1).trans HR_u314.out
              refine (alt_of2 u327 _ (.mk k0 m0 l0 hh0 r0 s0) (altT [.mk k1 m1 l1 hh1 r1 s1, .mk k2 m2 l2 hh2 r2 s2]) [.int .i64 k0, .int .i64 m0, .int .i64 l0, .int .i64 hh0, .slice ar0 r0.length cr0, .slice ak0 s0.length ck0] [.int .i64 u304, .int .i64 u305, .int .i64 u306, .int .i64 u307, .slice u308 u310 u311, .slice u309 u312 u313] hrb ((G0.out.move (fun b hb => (HB_u327.out.block b (Nat.lt_of_lt_of_le hb HJ_x11.out.bel.size)).trans (HJ_x11.out.bel.block b hb))).mono (fun b hb => Nat.lt_of_lt_of_le hb (Nat.le_trans HJ_x11.out.bel.size HB_u327.out.size))) ((HN_u303.out.move (fun b hb => HT_u303_u327.out.block b hb.2)).mono (fun b hb => Nat.lt_of_lt_of_le hb.2 HT_u303_u327.out.size)) (by have hnd := HND.out; have := altT_nodes [.mk k1 m1 l1 hh1 r1 s1, .mk k2 m2 l2 hh2 r2 s2]; simp only [NT.nodesL] at this; omega)).mono ?_
              rintro e u328 ⟨u329, u330, u331, u332, u333, u334, u335, u336, u337, u338, rfl, hNn, hB⟩
              have HN_u328 := Lib.hid hNn
              clear hNn hrb
              refine ⟨_, rfl, ?_⟩
              have HT_u302_u328 := Lib.hid (HT_u302_u327.out.trans (hB.mono HT_u302_u327.out.size))
              have HT_u303_u328 := Lib.hid (HT_u303_u327.out.trans (hB.mono HT_u303_u327.out.size))
              have HT_u314_u328 := Lib.hid (HT_u314_u327.out.trans (hB.mono HT_u314_u327.out.size))
              have HT_u327_u328 := Lib.hid hB
              have HB_u328 := Lib.hid (HB_u327.out.trans (hB.mono HB_u327.out.size))
              clear hB hHeld
              refine hK.out _ _ HB_u328.out (fun hHeld => ?_)
              clear hK K
              refine norm_ (a' := ?_) ?_ ?_
              rotate_left
              · show Act.put _ (some 58) _ = _
                simp only [Act.put, List.setIfInBounds_toArray, List.set_cons_zero, List.set_cons_succ, i64_w, i32_w]
                rfl
              have hzz := (HT_u327_u328.out.block _ (Array.getElem?_eq_some_iff.1 HZ_u327.out).1).trans HZ_u327.out
              have hnn : NIn u328 (fun b => b < u328.heap.size ∧ b ≠ u314.heap.size) _ [.int .i64 u329, .int .i64 u330, .int .i64 u331, .int .i64 u332, .slice u333 u335 u336, .slice u334 u337 u338] := (HN_u328.out.move (fun b hb => (Below.refl u328.heap.size u328).block b hb.2)).mono (fun b hb => ⟨Nat.lt_of_lt_of_le hb.2 (Below.refl u328.heap.size u328).size, by have h1 := HZS_u327.out; omega⟩)
              have hput := HeldT.put hnn hzz rfl
              have hbp : Below x11.heap.size x11 (put6 u328 u314.heap.size 0 (.int .i64 u329) (.int .i64 u330) (.int .i64 u331) (.int .i64 u332) (.slice u333 u335 u336) (.slice u334 u337 u338)) := put6_below HB_u328.out HB_u314.out.size _ _ _ _ _ _ _
              have HPUT := Lib.hid hput
              have HBP := Lib.hid hbp
              have d0 := cell_heap (i := 0) hzz rfl
              have d1 := cell_heap (i := 1) hzz rfl
              have d2 := cell_heap (i := 2) hzz rfl
              have d3 := cell_heap (i := 3) hzz rfl
              have d4 := cell_heap (i := 4) hzz rfl
              have d5 := cell_heap (i := 5) hzz rfl
              have q0 : ∀ o, u328.frozen? ⟨u314.heap.size, o, none⟩ = false := fun o => by simp [World.frozen?, hzz]
              clear hzz hnn hput hbp hHeld
              refine last_ (i := 8) (N := none) #[true, true, true, true, true, true, true, true, true] rfl rfl (one_of HT_.out (by kernel_rfl)) (by decide) (fun K hK => ?_)
              refine skip_ (w1 := ?_) (by rfl) rfl ?_ ?_
              rotate_left
              · go_simp
                rfl
              refine hK.out _ _ ?_
              clear hK K d0 d1 d2 d3 d4 d5 q0
              refine done_ (done_of HT_.out (by kernel_rfl)) ?_
              clear HT_
              go_wp2_with fail
              go_meet
              exact ⟨u314.heap.size, rfl, ⟨HBP.out, HPUT.out⟩⟩
          · skip
            refine value_ (v := .pointer (some ⟨u303.heap.size, 0, none⟩)) (w1 := u303.alloc (.cells #[.int .i64 0, .int .i64 0, .int .i64 0, .int .i64 0, .slice none 0 0, .slice none 0 0] 44)) (by rfl) rfl (by go_simp; first | done | rfl) ?_
            obtain ⟨u339, hnw⟩ : ∃ x, x = u303.alloc (.cells #[.int .i64 0, .int .i64 0, .int .i64 0, .int .i64 0, .slice none 0 0, .slice none 0 0] 44) := ⟨_, rfl⟩
            rw [← hnw]
            have hB : Below u303.heap.size u303 u339 := by rw [hnw]; exact (Below.refl _ u303).alloc (Nat.le_refl _) _
            have HZ_u339 := Lib.hid (show u339.heap[u303.heap.size]? = some (.cells #[.int .i64 0, .int .i64 0, .int .i64 0, .int .i64 0, .slice none 0 0, .slice none 0 0] 44 (0, 0)) by rw [hnw]; exact World.alloc_heap_new u303 _)
            have HZS_u339 := Lib.hid (show u339.heap.size = u303.heap.size + 1 by rw [hnw]; simp)
            clear hnw
            have HT_u302_u339 := Lib.hid (HT_u302_u303.out.trans (hB.mono HT_u302_u303.out.size))
            have HT_u303_u339 := Lib.hid hB
            have HB_u339 := Lib.hid (HB_u303.out.trans (hB.mono HB_u303.out.size))
            clear hB hHeld
            refine hK.out _ _ HB_u339.out (fun hHeld => ?_)
            clear hK K
            refine norm_ (a' := ?_) ?_ ?_
            rotate_left
            · show Act.put _ (some 12) _ = _
              simp only [Act.put, List.setIfInBounds_toArray, List.set_cons_zero, List.set_cons_succ, i64_w, i32_w]
              rfl
            refine one_ (i := 5) (N := some 57) #[true, true, true, true, true, true, false, true, false] rfl rfl (one_of HT_.out (by kernel_rfl)) (by decide) (fun K hK => ?_)
            refine value_ (v := .slice (some ⟨u339.heap.size, 0, none⟩) 2 2) (w1 := u339.alloc (.cells #[.int .i64 k0, .int .i64 m0, .int .i64 l0, .int .i64 hh0, .slice ar0 r0.length cr0, .slice ak0 s0.length ck0, .int .i64 u304, .int .i64 u305, .int .i64 u306, .int .i64 u307, .slice u308 u310 u311, .slice u309 u312 u313] 44)) (by rfl) rfl (by go_simp; first | done | rfl) ?_
            obtain ⟨u340, hnw⟩ : ∃ x, x = u339.alloc (.cells #[.int .i64 k0, .int .i64 m0, .int .i64 l0, .int .i64 hh0, .slice ar0 r0.length cr0, .slice ak0 s0.length ck0, .int .i64 u304, .int .i64 u305, .int .i64 u306, .int .i64 u307, .slice u308 u310 u311, .slice u309 u312 u313] 44) := ⟨_, rfl⟩
            rw [← hnw]
            have hB : Below u339.heap.size u339 u340 := by rw [hnw]; exact (Below.refl _ u339).alloc (Nat.le_refl _) _
            have HR_u340 := Lib.hid (show u340.heap[u339.heap.size]? = some (.cells #[.int .i64 k0, .int .i64 m0, .int .i64 l0, .int .i64 hh0, .slice ar0 r0.length cr0, .slice ak0 s0.length ck0, .int .i64 u304, .int .i64 u305, .int .i64 u306, .int .i64 u307, .slice u308 u310 u311, .slice u309 u312 u313] 44 (0, 0)) by rw [hnw]; exact World.alloc_heap_new u339 _)
            clear hnw
            have HT_u302_u340 := Lib.hid (HT_u302_u339.out.trans (hB.mono HT_u302_u339.out.size))
            have HT_u303_u340 := Lib.hid (HT_u303_u339.out.trans (hB.mono HT_u303_u339.out.size))
            have HT_u339_u340 := Lib.hid hB
            have HB_u340 := Lib.hid (HB_u339.out.trans (hB.mono HB_u339.out.size))
            clear hB hHeld
            refine hK.out _ _ HB_u340.out (fun hHeld => ?_)
            clear hK K
            refine norm_ (a' := ?_) ?_ ?_
            rotate_left
            · show Act.put _ (some 57) _ = _
              simp only [Act.put, List.setIfInBounds_toArray, List.set_cons_zero, List.set_cons_succ, i64_w, i32_w]
              rfl
            refine one_ (i := 6) (N := some 58) #[true, true, true, true, true, true, true, true, false] rfl rfl (one_of HT_.out (by kernel_rfl)) (by decide) (fun K hK => ?_)
            refine goes_ Try.func56 (by kernel_rfl) rfl #[.slice (some ⟨u339.heap.size, 0, none⟩) 2 2] (by rfl) rfl rfl (by (try simp only [List.map_toArray, List.map_cons, List.map_nil]); first | done | rfl) ?_
            have hrb := ((Below.refl u340.heap.size u340).block _ (Array.getElem?_eq_some_iff.1 HR_u340.out).1).trans HR_u340.out
            refine (alt_of2 u340 _ (.mk k0 m0 l0 hh0 r0 s0) (altT [.mk k1 m1 l1 hh1 r1 s1, .mk k2 m2 l2 hh2 r2 s2]) [.int .i64 k0, .int .i64 m0, .int .i64 l0, .int .i64 hh0, .slice ar0 r0.length cr0, .slice ak0 s0.length ck0] [.int .i64 u304, .int .i64 u305, .int .i64 u306, .int .i64 u307, .slice u308 u310 u311, .slice u309 u312 u313] hrb ((G0.out.move (fun b hb => (HB_u340.out.block b (Nat.lt_of_lt_of_le hb HJ_x11.out.bel.size)).trans (HJ_x11.out.bel.block b hb))).mono (fun b hb => Nat.lt_of_lt_of_le hb (Nat.le_trans HJ_x11.out.bel.size HB_u340.out.size))) ((HN_u303.out.move (fun b hb => HT_u303_u340.out.block b hb.2)).mono (fun b hb => Nat.lt_of_lt_of_le hb.2 HT_u303_u340.out.size)) (by have hnd := HND.out; have := altT_nodes [.mk k1 m1 l1 hh1 r1 s1, .mk k2 m2 l2 hh2 r2 s2]; simp only [NT.nodesL] at this; omega)).mono ?_
            rintro e u341 ⟨u342, u343, u344, u345, u346, u347, u348, u349, u350, u351, rfl, hNn, hB⟩
            have HN_u341 := Lib.hid hNn
            clear hNn hrb
            refine ⟨_, rfl, ?_⟩
            have HT_u302_u341 := Lib.hid (HT_u302_u340.out.trans (hB.mono HT_u302_u340.out.size))
            have HT_u303_u341 := Lib.hid (HT_u303_u340.out.trans (hB.mono HT_u303_u340.out.size))
            have HT_u339_u341 := Lib.hid (HT_u339_u340.out.trans (hB.mono HT_u339_u340.out.size))
            have HT_u340_u341 := Lib.hid hB
            have HB_u341 := Lib.hid (HB_u340.out.trans (hB.mono HB_u340.out.size))
            clear hB hHeld
            refine hK.out _ _ HB_u341.out (fun hHeld => ?_)
            clear hK K
            refine norm_ (a' := ?_) ?_ ?_
            rotate_left
            · show Act.put _ (some 58) _ = _
              simp only [Act.put, List.setIfInBounds_toArray, List.set_cons_zero, List.set_cons_succ, i64_w, i32_w]
              rfl
            have hzz := (HT_u339_u341.out.block _ (Array.getElem?_eq_some_iff.1 HZ_u339.out).1).trans HZ_u339.out
            have hnn : NIn u341 (fun b => b < u341.heap.size ∧ b ≠ u303.heap.size) _ [.int .i64 u342, .int .i64 u343, .int .i64 u344, .int .i64 u345, .slice u346 u348 u349, .slice u347 u350 u351] := (HN_u341.out.move (fun b hb => (Below.refl u341.heap.size u341).block b hb.2)).mono (fun b hb => ⟨Nat.lt_of_lt_of_le hb.2 (Below.refl u341.heap.size u341).size, by have h1 := HZS_u339.out; have h2 := HT_u339_u340.out.size; omega⟩)
            have hput := HeldT.put hnn hzz rfl
            have hbp : Below x11.heap.size x11 (put6 u341 u303.heap.size 0 (.int .i64 u342) (.int .i64 u343) (.int .i64 u344) (.int .i64 u345) (.slice u346 u348 u349) (.slice u347 u350 u351)) := put6_below HB_u341.out HB_u303.out.size _ _ _ _ _ _ _
            have HPUT := Lib.hid hput
            have HBP := Lib.hid hbp
            have d0 := cell_heap (i := 0) hzz rfl
            have d1 := cell_heap (i := 1) hzz rfl
            have d2 := cell_heap (i := 2) hzz rfl
            have d3 := cell_heap (i := 3) hzz rfl
            have d4 := cell_heap (i := 4) hzz rfl
            have d5 := cell_heap (i := 5) hzz rfl
            have q0 : ∀ o, u341.frozen? ⟨u303.heap.size, o, none⟩ = false := fun o => by simp [World.frozen?, hzz]
            clear hzz hnn hput hbp hHeld
            refine last_ (i := 8) (N := none) #[true, true, true, true, true, true, true, true, true] rfl rfl (one_of HT_.out (by kernel_rfl)) (by decide) (fun K hK => ?_)
            refine skip_ (w1 := ?_) (by rfl) rfl ?_ ?_
            rotate_left
            · go_simp
              rfl
            refine hK.out _ _ ?_
            clear hK K d0 d1 d2 d3 d4 d5 q0
            refine done_ (done_of HT_.out (by kernel_rfl)) ?_
            clear HT_
            go_wp2_with fail
            go_meet
            exact ⟨u303.heap.size, rfl, ⟨HBP.out, HPUT.out⟩⟩
        · skip
          refine value_ (v := .pointer (some ⟨u302.heap.size, 0, none⟩)) (w1 := u302.alloc (.cells #[.int .i64 0, .int .i64 0, .int .i64 0, .int .i64 0, .slice none 0 0, .slice none 0 0] 44)) (by rfl) rfl (by go_simp; first | done | rfl) ?_
          obtain ⟨u352, hnw⟩ : ∃ x, x = u302.alloc (.cells #[.int .i64 0, .int .i64 0, .int .i64 0, .int .i64 0, .slice none 0 0, .slice none 0 0] 44) := ⟨_, rfl⟩
          rw [← hnw]
          have hB : Below u302.heap.size u302 u352 := by rw [hnw]; exact (Below.refl _ u302).alloc (Nat.le_refl _) _
          have HZ_u352 := Lib.hid (show u352.heap[u302.heap.size]? = some (.cells #[.int .i64 0, .int .i64 0, .int .i64 0, .int .i64 0, .slice none 0 0, .slice none 0 0] 44 (0, 0)) by rw [hnw]; exact World.alloc_heap_new u302 _)
          have HZS_u352 := Lib.hid (show u352.heap.size = u302.heap.size + 1 by rw [hnw]; simp)
          clear hnw
          have HT_u302_u352 := Lib.hid hB
          have HB_u352 := Lib.hid (HB_u302.out.trans (hB.mono HB_u302.out.size))
          clear hB hHeld
          refine hK.out _ _ HB_u352.out (fun hHeld => ?_)
          clear hK K
          refine norm_ (a' := ?_) ?_ ?_
          rotate_left
          · show Act.put _ (some 12) _ = _
            simp only [Act.put, List.setIfInBounds_toArray, List.set_cons_zero, List.set_cons_succ, i64_w, i32_w]
            rfl
          refine one_ (i := 4) (N := some 56) #[true, true, true, true, true, false, false, true, false] rfl rfl (one_of HT_.out (by kernel_rfl)) (by decide) (fun K hK => ?_)
          refine goes_ Try.func56 (by kernel_rfl) rfl #[.slice (some ⟨u301.heap.size, 0, none⟩) 2 2] (by rfl) rfl rfl (by (try simp only [List.map_toArray, List.map_cons, List.map_nil]); first | done | rfl) ?_
          have hrb := (HT_u302_u352.out.block _ (Array.getElem?_eq_some_iff.1 HR_u302.out).1).trans HR_u302.out
          refine (alt_of2 u352 _ (.mk k1 m1 l1 hh1 r1 s1) (.mk k2 m2 l2 hh2 r2 s2) [.int .i64 k1, .int .i64 m1, .int .i64 l1, .int .i64 hh1, .slice ar1 r1.length cr1, .slice ak1 s1.length ck1] [.int .i64 k2, .int .i64 m2, .int .i64 l2, .int .i64 hh2, .slice ar2 r2.length cr2, .slice ak2 s2.length ck2] hrb ((G1.out.move (fun b hb => (HB_u352.out.block b (Nat.lt_of_lt_of_le hb HJ_x11.out.bel.size)).trans (HJ_x11.out.bel.block b hb))).mono (fun b hb => Nat.lt_of_lt_of_le hb (Nat.le_trans HJ_x11.out.bel.size HB_u352.out.size))) ((G2.out.move (fun b hb => (HB_u352.out.block b (Nat.lt_of_lt_of_le hb HJ_x11.out.bel.size)).trans (HJ_x11.out.bel.block b hb))).mono (fun b hb => Nat.lt_of_lt_of_le hb (Nat.le_trans HJ_x11.out.bel.size HB_u352.out.size))) (by have hnd := HND.out; omega)).mono ?_
          rintro e u353 ⟨u354, u355, u356, u357, u358, u359, u360, u361, u362, u363, rfl, hNn, hB⟩
          have HN_u353 := Lib.hid hNn
          clear hNn hrb
          refine ⟨_, rfl, ?_⟩
          have HT_u302_u353 := Lib.hid (HT_u302_u352.out.trans (hB.mono HT_u302_u352.out.size))
          have HT_u352_u353 := Lib.hid hB
          have HB_u353 := Lib.hid (HB_u352.out.trans (hB.mono HB_u352.out.size))
          clear hB hHeld
          refine hK.out _ _ HB_u353.out (fun hHeld => ?_)
          clear hK K
          refine norm_ (a' := ?_) ?_ ?_
          rotate_left
          · show Act.put _ (some 56) _ = _
            simp only [Act.put, List.setIfInBounds_toArray, List.set_cons_zero, List.set_cons_succ, i64_w, i32_w]
            rfl
          refine one_ (i := 5) (N := some 57) #[true, true, true, true, true, true, false, true, false] rfl rfl (one_of HT_.out (by kernel_rfl)) (by decide) (fun K hK => ?_)
          refine value_ (v := .slice (some ⟨u353.heap.size, 0, none⟩) 2 2) (w1 := u353.alloc (.cells #[.int .i64 k0, .int .i64 m0, .int .i64 l0, .int .i64 hh0, .slice ar0 r0.length cr0, .slice ak0 s0.length ck0, .int .i64 u354, .int .i64 u355, .int .i64 u356, .int .i64 u357, .slice u358 u360 u361, .slice u359 u362 u363] 44)) (by rfl) rfl (by go_simp; first | done | rfl) ?_
          obtain ⟨u364, hnw⟩ : ∃ x, x = u353.alloc (.cells #[.int .i64 k0, .int .i64 m0, .int .i64 l0, .int .i64 hh0, .slice ar0 r0.length cr0, .slice ak0 s0.length ck0, .int .i64 u354, .int .i64 u355, .int .i64 u356, .int .i64 u357, .slice u358 u360 u361, .slice u359 u362 u363] 44) := ⟨_, rfl⟩
          rw [← hnw]
          have hB : Below u353.heap.size u353 u364 := by rw [hnw]; exact (Below.refl _ u353).alloc (Nat.le_refl _) _
          have HR_u364 := Lib.hid (show u364.heap[u353.heap.size]? = some (.cells #[.int .i64 k0, .int .i64 m0, .int .i64 l0, .int .i64 hh0, .slice ar0 r0.length cr0, .slice ak0 s0.length ck0, .int .i64 u354, .int .i64 u355, .int .i64 u356, .int .i64 u357, .slice u358 u360 u361, .slice u359 u362 u363] 44 (0, 0)) by rw [hnw]; exact World.alloc_heap_new u353 _)
          clear hnw
          have HT_u302_u364 := Lib.hid (HT_u302_u353.out.trans (hB.mono HT_u302_u353.out.size))
          have HT_u352_u364 := Lib.hid (HT_u352_u353.out.trans (hB.mono HT_u352_u353.out.size))
          have HT_u353_u364 := Lib.hid hB
          have HB_u364 := Lib.hid (HB_u353.out.trans (hB.mono HB_u353.out.size))
          clear hB hHeld
          refine hK.out _ _ HB_u364.out (fun hHeld => ?_)
          clear hK K
          refine norm_ (a' := ?_) ?_ ?_
          rotate_left
          · show Act.put _ (some 57) _ = _
            simp only [Act.put, List.setIfInBounds_toArray, List.set_cons_zero, List.set_cons_succ, i64_w, i32_w]
            rfl
          refine one_ (i := 6) (N := some 58) #[true, true, true, true, true, true, true, true, false] rfl rfl (one_of HT_.out (by kernel_rfl)) (by decide) (fun K hK => ?_)
          refine goes_ Try.func56 (by kernel_rfl) rfl #[.slice (some ⟨u353.heap.size, 0, none⟩) 2 2] (by rfl) rfl rfl (by (try simp only [List.map_toArray, List.map_cons, List.map_nil]); first | done | rfl) ?_
          have hrb := ((Below.refl u364.heap.size u364).block _ (Array.getElem?_eq_some_iff.1 HR_u364.out).1).trans HR_u364.out
          refine (alt_of2 u364 _ (.mk k0 m0 l0 hh0 r0 s0) (altT [.mk k1 m1 l1 hh1 r1 s1, .mk k2 m2 l2 hh2 r2 s2]) [.int .i64 k0, .int .i64 m0, .int .i64 l0, .int .i64 hh0, .slice ar0 r0.length cr0, .slice ak0 s0.length ck0] [.int .i64 u354, .int .i64 u355, .int .i64 u356, .int .i64 u357, .slice u358 u360 u361, .slice u359 u362 u363] hrb ((G0.out.move (fun b hb => (HB_u364.out.block b (Nat.lt_of_lt_of_le hb HJ_x11.out.bel.size)).trans (HJ_x11.out.bel.block b hb))).mono (fun b hb => Nat.lt_of_lt_of_le hb (Nat.le_trans HJ_x11.out.bel.size HB_u364.out.size))) ((HN_u353.out.move (fun b hb => HT_u353_u364.out.block b hb.2)).mono (fun b hb => Nat.lt_of_lt_of_le hb.2 HT_u353_u364.out.size)) (by have hnd := HND.out; have := altT_nodes [.mk k1 m1 l1 hh1 r1 s1, .mk k2 m2 l2 hh2 r2 s2]; simp only [NT.nodesL] at this; omega)).mono ?_
          rintro e u365 ⟨u366, u367, u368, u369, u370, u371, u372, u373, u374, u375, rfl, hNn, hB⟩
          have HN_u365 := Lib.hid hNn
          clear hNn hrb
          refine ⟨_, rfl, ?_⟩
          have HT_u302_u365 := Lib.hid (HT_u302_u364.out.trans (hB.mono HT_u302_u364.out.size))
          have HT_u352_u365 := Lib.hid (HT_u352_u364.out.trans (hB.mono HT_u352_u364.out.size))
          have HT_u353_u365 := Lib.hid (HT_u353_u364.out.trans (hB.mono HT_u353_u364.out.size))
          have HT_u364_u365 := Lib.hid hB
          have HB_u365 := Lib.hid (HB_u364.out.trans (hB.mono HB_u364.out.size))
          clear hB hHeld
          refine hK.out _ _ HB_u365.out (fun hHeld => ?_)
          clear hK K
          refine norm_ (a' := ?_) ?_ ?_
          rotate_left
          · show Act.put _ (some 58) _ = _
            simp only [Act.put, List.setIfInBounds_toArray, List.set_cons_zero, List.set_cons_succ, i64_w, i32_w]
            rfl
          have hzz := (HT_u352_u365.out.block _ (Array.getElem?_eq_some_iff.1 HZ_u352.out).1).trans HZ_u352.out
          have hnn : NIn u365 (fun b => b < u365.heap.size ∧ b ≠ u302.heap.size) _ [.int .i64 u366, .int .i64 u367, .int .i64 u368, .int .i64 u369, .slice u370 u372 u373, .slice u371 u374 u375] := (HN_u365.out.move (fun b hb => (Below.refl u365.heap.size u365).block b hb.2)).mono (fun b hb => ⟨Nat.lt_of_lt_of_le hb.2 (Below.refl u365.heap.size u365).size, by have h1 := HZS_u352.out; have h2 := HT_u352_u364.out.size; omega⟩)
          have hput := HeldT.put hnn hzz rfl
          have hbp : Below x11.heap.size x11 (put6 u365 u302.heap.size 0 (.int .i64 u366) (.int .i64 u367) (.int .i64 u368) (.int .i64 u369) (.slice u370 u372 u373) (.slice u371 u374 u375)) := put6_below HB_u365.out HB_u302.out.size _ _ _ _ _ _ _
          have HPUT := Lib.hid hput
          have HBP := Lib.hid hbp
          have d0 := cell_heap (i := 0) hzz rfl
          have d1 := cell_heap (i := 1) hzz rfl
          have d2 := cell_heap (i := 2) hzz rfl
          have d3 := cell_heap (i := 3) hzz rfl
          have d4 := cell_heap (i := 4) hzz rfl
          have d5 := cell_heap (i := 5) hzz rfl
          have q0 : ∀ o, u365.frozen? ⟨u302.heap.size, o, none⟩ = false := fun o => by simp [World.frozen?, hzz]
          clear hzz hnn hput hbp hHeld
          refine last_ (i := 8) (N := none) #[true, true, true, true, true, true, true, true, true] rfl rfl (one_of HT_.out (by kernel_rfl)) (by decide) (fun K hK => ?_)
          refine skip_ (w1 := ?_) (by rfl) rfl ?_ ?_
          rotate_left
          · go_simp
            rfl
          refine hK.out _ _ ?_
          clear hK K d0 d1 d2 d3 d4 d5 q0
          refine done_ (done_of HT_.out (by kernel_rfl)) ?_
          clear HT_
          go_wp2_with fail
          go_meet
          exact ⟨u302.heap.size, rfl, ⟨HBP.out, HPUT.out⟩⟩
      · skip
        refine value_ (v := .pointer (some ⟨u301.heap.size, 0, none⟩)) (w1 := u301.alloc (.cells #[.int .i64 0, .int .i64 0, .int .i64 0, .int .i64 0, .slice none 0 0, .slice none 0 0] 44)) (by rfl) rfl (by go_simp; first | done | rfl) ?_
        obtain ⟨u376, hnw⟩ : ∃ x, x = u301.alloc (.cells #[.int .i64 0, .int .i64 0, .int .i64 0, .int .i64 0, .slice none 0 0, .slice none 0 0] 44) := ⟨_, rfl⟩
        rw [← hnw]
        have hB : Below u301.heap.size u301 u376 := by rw [hnw]; exact (Below.refl _ u301).alloc (Nat.le_refl _) _
        have HZ_u376 := Lib.hid (show u376.heap[u301.heap.size]? = some (.cells #[.int .i64 0, .int .i64 0, .int .i64 0, .int .i64 0, .slice none 0 0, .slice none 0 0] 44 (0, 0)) by rw [hnw]; exact World.alloc_heap_new u301 _)
        have HZS_u376 := Lib.hid (show u376.heap.size = u301.heap.size + 1 by rw [hnw]; simp)
        clear hnw
        have HB_u376 := Lib.hid (HB0x11.out.trans (hB.mono HB0x11.out.size))
        clear hB hHeld
        refine hK.out _ _ HB_u376.out (fun hHeld => ?_)
        clear hK K
        refine norm_ (a' := ?_) ?_ ?_
        rotate_left
        · show Act.put _ (some 12) _ = _
          simp only [Act.put, List.setIfInBounds_toArray, List.set_cons_zero, List.set_cons_succ, i64_w, i32_w]
          rfl
        refine one_ (i := 3) (N := some 55) #[true, true, true, true, false, false, false, true, false] rfl rfl (one_of HT_.out (by kernel_rfl)) (by decide) (fun K hK => ?_)
        refine value_ (v := .slice (some ⟨u376.heap.size, 0, none⟩) 2 2) (w1 := u376.alloc (.cells #[.int .i64 k1, .int .i64 m1, .int .i64 l1, .int .i64 hh1, .slice ar1 r1.length cr1, .slice ak1 s1.length ck1, .int .i64 k2, .int .i64 m2, .int .i64 l2, .int .i64 hh2, .slice ar2 r2.length cr2, .slice ak2 s2.length ck2] 44)) (by rfl) rfl (by go_simp; first | done | rfl) ?_
        obtain ⟨u377, hnw⟩ : ∃ x, x = u376.alloc (.cells #[.int .i64 k1, .int .i64 m1, .int .i64 l1, .int .i64 hh1, .slice ar1 r1.length cr1, .slice ak1 s1.length ck1, .int .i64 k2, .int .i64 m2, .int .i64 l2, .int .i64 hh2, .slice ar2 r2.length cr2, .slice ak2 s2.length ck2] 44) := ⟨_, rfl⟩
        rw [← hnw]
        have hB : Below u376.heap.size u376 u377 := by rw [hnw]; exact (Below.refl _ u376).alloc (Nat.le_refl _) _
        have HR_u377 := Lib.hid (show u377.heap[u376.heap.size]? = some (.cells #[.int .i64 k1, .int .i64 m1, .int .i64 l1, .int .i64 hh1, .slice ar1 r1.length cr1, .slice ak1 s1.length ck1, .int .i64 k2, .int .i64 m2, .int .i64 l2, .int .i64 hh2, .slice ar2 r2.length cr2, .slice ak2 s2.length ck2] 44 (0, 0)) by rw [hnw]; exact World.alloc_heap_new u376 _)
        clear hnw
        have HT_u376_u377 := Lib.hid hB
        have HB_u377 := Lib.hid (HB_u376.out.trans (hB.mono HB_u376.out.size))
        clear hB hHeld
        refine hK.out _ _ HB_u377.out (fun hHeld => ?_)
        clear hK K
        refine norm_ (a' := ?_) ?_ ?_
        rotate_left
        · show Act.put _ (some 55) _ = _
          simp only [Act.put, List.setIfInBounds_toArray, List.set_cons_zero, List.set_cons_succ, i64_w, i32_w]
          rfl
        refine one_ (i := 4) (N := some 56) #[true, true, true, true, true, false, false, true, false] rfl rfl (one_of HT_.out (by kernel_rfl)) (by decide) (fun K hK => ?_)
        refine goes_ Try.func56 (by kernel_rfl) rfl #[.slice (some ⟨u376.heap.size, 0, none⟩) 2 2] (by rfl) rfl rfl (by (try simp only [List.map_toArray, List.map_cons, List.map_nil]); first | done | rfl) ?_
        have hrb := ((Below.refl u377.heap.size u377).block _ (Array.getElem?_eq_some_iff.1 HR_u377.out).1).trans HR_u377.out
        refine (alt_of2 u377 _ (.mk k1 m1 l1 hh1 r1 s1) (.mk k2 m2 l2 hh2 r2 s2) [.int .i64 k1, .int .i64 m1, .int .i64 l1, .int .i64 hh1, .slice ar1 r1.length cr1, .slice ak1 s1.length ck1] [.int .i64 k2, .int .i64 m2, .int .i64 l2, .int .i64 hh2, .slice ar2 r2.length cr2, .slice ak2 s2.length ck2] hrb ((G1.out.move (fun b hb => (HB_u377.out.block b (Nat.lt_of_lt_of_le hb HJ_x11.out.bel.size)).trans (HJ_x11.out.bel.block b hb))).mono (fun b hb => Nat.lt_of_lt_of_le hb (Nat.le_trans HJ_x11.out.bel.size HB_u377.out.size))) ((G2.out.move (fun b hb => (HB_u377.out.block b (Nat.lt_of_lt_of_le hb HJ_x11.out.bel.size)).trans (HJ_x11.out.bel.block b hb))).mono (fun b hb => Nat.lt_of_lt_of_le hb (Nat.le_trans HJ_x11.out.bel.size HB_u377.out.size))) (by have hnd := HND.out; omega)).mono ?_
        rintro e u378 ⟨u379, u380, u381, u382, u383, u384, u385, u386, u387, u388, rfl, hNn, hB⟩
        have HN_u378 := Lib.hid hNn
        clear hNn hrb
        refine ⟨_, rfl, ?_⟩
        have HT_u376_u378 := Lib.hid (HT_u376_u377.out.trans (hB.mono HT_u376_u377.out.size))
        have HT_u377_u378 := Lib.hid hB
        have HB_u378 := Lib.hid (HB_u377.out.trans (hB.mono HB_u377.out.size))
        clear hB hHeld
        refine hK.out _ _ HB_u378.out (fun hHeld => ?_)
        clear hK K
        refine norm_ (a' := ?_) ?_ ?_
        rotate_left
        · show Act.put _ (some 56) _ = _
          simp only [Act.put, List.setIfInBounds_toArray, List.set_cons_zero, List.set_cons_succ, i64_w, i32_w]
          rfl
        refine one_ (i := 5) (N := some 57) #[true, true, true, true, true, true, false, true, false] rfl rfl (one_of HT_.out (by kernel_rfl)) (by decide) (fun K hK => ?_)
        refine value_ (v := .slice (some ⟨u378.heap.size, 0, none⟩) 2 2) (w1 := u378.alloc (.cells #[.int .i64 k0, .int .i64 m0, .int .i64 l0, .int .i64 hh0, .slice ar0 r0.length cr0, .slice ak0 s0.length ck0, .int .i64 u379, .int .i64 u380, .int .i64 u381, .int .i64 u382, .slice u383 u385 u386, .slice u384 u387 u388] 44)) (by rfl) rfl (by go_simp; first | done | rfl) ?_
        obtain ⟨u389, hnw⟩ : ∃ x, x = u378.alloc (.cells #[.int .i64 k0, .int .i64 m0, .int .i64 l0, .int .i64 hh0, .slice ar0 r0.length cr0, .slice ak0 s0.length ck0, .int .i64 u379, .int .i64 u380, .int .i64 u381, .int .i64 u382, .slice u383 u385 u386, .slice u384 u387 u388] 44) := ⟨_, rfl⟩
        rw [← hnw]
        have hB : Below u378.heap.size u378 u389 := by rw [hnw]; exact (Below.refl _ u378).alloc (Nat.le_refl _) _
        have HR_u389 := Lib.hid (show u389.heap[u378.heap.size]? = some (.cells #[.int .i64 k0, .int .i64 m0, .int .i64 l0, .int .i64 hh0, .slice ar0 r0.length cr0, .slice ak0 s0.length ck0, .int .i64 u379, .int .i64 u380, .int .i64 u381, .int .i64 u382, .slice u383 u385 u386, .slice u384 u387 u388] 44 (0, 0)) by rw [hnw]; exact World.alloc_heap_new u378 _)
        clear hnw
        have HT_u376_u389 := Lib.hid (HT_u376_u378.out.trans (hB.mono HT_u376_u378.out.size))
        have HT_u377_u389 := Lib.hid (HT_u377_u378.out.trans (hB.mono HT_u377_u378.out.size))
        have HT_u378_u389 := Lib.hid hB
        have HB_u389 := Lib.hid (HB_u378.out.trans (hB.mono HB_u378.out.size))
        clear hB hHeld
        refine hK.out _ _ HB_u389.out (fun hHeld => ?_)
        clear hK K
        refine norm_ (a' := ?_) ?_ ?_
        rotate_left
        · show Act.put _ (some 57) _ = _
          simp only [Act.put, List.setIfInBounds_toArray, List.set_cons_zero, List.set_cons_succ, i64_w, i32_w]
          rfl
        refine one_ (i := 6) (N := some 58) #[true, true, true, true, true, true, true, true, false] rfl rfl (one_of HT_.out (by kernel_rfl)) (by decide) (fun K hK => ?_)
        refine goes_ Try.func56 (by kernel_rfl) rfl #[.slice (some ⟨u378.heap.size, 0, none⟩) 2 2] (by rfl) rfl rfl (by (try simp only [List.map_toArray, List.map_cons, List.map_nil]); first | done | rfl) ?_
        have hrb := ((Below.refl u389.heap.size u389).block _ (Array.getElem?_eq_some_iff.1 HR_u389.out).1).trans HR_u389.out
        refine (alt_of2 u389 _ (.mk k0 m0 l0 hh0 r0 s0) (altT [.mk k1 m1 l1 hh1 r1 s1, .mk k2 m2 l2 hh2 r2 s2]) [.int .i64 k0, .int .i64 m0, .int .i64 l0, .int .i64 hh0, .slice ar0 r0.length cr0, .slice ak0 s0.length ck0] [.int .i64 u379, .int .i64 u380, .int .i64 u381, .int .i64 u382, .slice u383 u385 u386, .slice u384 u387 u388] hrb ((G0.out.move (fun b hb => (HB_u389.out.block b (Nat.lt_of_lt_of_le hb HJ_x11.out.bel.size)).trans (HJ_x11.out.bel.block b hb))).mono (fun b hb => Nat.lt_of_lt_of_le hb (Nat.le_trans HJ_x11.out.bel.size HB_u389.out.size))) ((HN_u378.out.move (fun b hb => HT_u378_u389.out.block b hb.2)).mono (fun b hb => Nat.lt_of_lt_of_le hb.2 HT_u378_u389.out.size)) (by have hnd := HND.out; have := altT_nodes [.mk k1 m1 l1 hh1 r1 s1, .mk k2 m2 l2 hh2 r2 s2]; simp only [NT.nodesL] at this; omega)).mono ?_
        rintro e u390 ⟨u391, u392, u393, u394, u395, u396, u397, u398, u399, u400, rfl, hNn, hB⟩
        have HN_u390 := Lib.hid hNn
        clear hNn hrb
        refine ⟨_, rfl, ?_⟩
        have HT_u376_u390 := Lib.hid (HT_u376_u389.out.trans (hB.mono HT_u376_u389.out.size))
        have HT_u377_u390 := Lib.hid (HT_u377_u389.out.trans (hB.mono HT_u377_u389.out.size))
        have HT_u378_u390 := Lib.hid (HT_u378_u389.out.trans (hB.mono HT_u378_u389.out.size))
        have HT_u389_u390 := Lib.hid hB
        have HB_u390 := Lib.hid (HB_u389.out.trans (hB.mono HB_u389.out.size))
        clear hB hHeld
        refine hK.out _ _ HB_u390.out (fun hHeld => ?_)
        clear hK K
        refine norm_ (a' := ?_) ?_ ?_
        rotate_left
        · show Act.put _ (some 58) _ = _
          simp only [Act.put, List.setIfInBounds_toArray, List.set_cons_zero, List.set_cons_succ, i64_w, i32_w]
          rfl
        have hzz := (HT_u376_u390.out.block _ (Array.getElem?_eq_some_iff.1 HZ_u376.out).1).trans HZ_u376.out
        have hnn : NIn u390 (fun b => b < u390.heap.size ∧ b ≠ u301.heap.size) _ [.int .i64 u391, .int .i64 u392, .int .i64 u393, .int .i64 u394, .slice u395 u397 u398, .slice u396 u399 u400] := (HN_u390.out.move (fun b hb => (Below.refl u390.heap.size u390).block b hb.2)).mono (fun b hb => ⟨Nat.lt_of_lt_of_le hb.2 (Below.refl u390.heap.size u390).size, by have h1 := HZS_u376.out; have h2 := HT_u376_u389.out.size; omega⟩)
        have hput := HeldT.put hnn hzz rfl
        have hbp : Below x11.heap.size x11 (put6 u390 u301.heap.size 0 (.int .i64 u391) (.int .i64 u392) (.int .i64 u393) (.int .i64 u394) (.slice u395 u397 u398) (.slice u396 u399 u400)) := put6_below HB_u390.out HB0x11.out.size _ _ _ _ _ _ _
        have HPUT := Lib.hid hput
        have HBP := Lib.hid hbp
        have d0 := cell_heap (i := 0) hzz rfl
        have d1 := cell_heap (i := 1) hzz rfl
        have d2 := cell_heap (i := 2) hzz rfl
        have d3 := cell_heap (i := 3) hzz rfl
        have d4 := cell_heap (i := 4) hzz rfl
        have d5 := cell_heap (i := 5) hzz rfl
        have q0 : ∀ o, u390.frozen? ⟨u301.heap.size, o, none⟩ = false := fun o => by simp [World.frozen?, hzz]
        clear hzz hnn hput hbp hHeld
        refine last_ (i := 8) (N := none) #[true, true, true, true, true, true, true, true, true] rfl rfl (one_of HT_.out (by kernel_rfl)) (by decide) (fun K hK => ?_)
        refine skip_ (w1 := ?_) (by rfl) rfl ?_ ?_
        rotate_left
        · go_simp
          rfl
        refine hK.out _ _ ?_
        clear hK K d0 d1 d2 d3 d4 d5 q0
        refine done_ (done_of HT_.out (by kernel_rfl)) ?_
        clear HT_
        go_wp2_with fail
        go_meet
        exact ⟨u301.heap.size, rfl, ⟨HBP.out, HPUT.out⟩⟩
    case rest =>
      obtain ⟨B12, rfl, hx⟩ := hcut
      obtain ⟨x12, rfl⟩ : ∃ x : World, x = wc := ⟨_, rfl⟩
      have HJ_x12 := Lib.hid (HJ_x11.out.below hx.out.1)
      have HH8_x12 := Lib.hid (HH8_x11.out.below hx.out.1)
      have HH9_x12 := Lib.hid (HH9_x11.out.below hx.out.1)
      have HH10_x12 := Lib.hid (HH10_x11.out.below hx.out.1)
      have HH11_x12 := Lib.hid (HH11_x11.out.below hx.out.1)
      have HH12_x12 := Lib.hid hx.out.2
      clear hx HJ_x11 HH8_x11 HH9_x11 HH10_x11 HH11_x11
      go_upto_region 9 with (fail)
      go_cut [13] (fun s13 wx => ∃ B : Nat, s13 = .pointer (some ⟨B, 0, none⟩) ∧ Aside0 (Below x12.heap.size x12 wx ∧ HeldT wx B (altT [.mk k0 m0 l0 hh0 r0 s0, .mk k1 m1 l1 hh1 r1 s1, .mk k2 m2 l2 hh2 r2 s2])))
      case first =>
        have z0 := HJ_x12.out.n0
        have n00 := cell_heap (i := 0) z0 rfl
        have n01 := cell_heap (i := 1) z0 rfl
        have n02 := cell_heap (i := 2) z0 rfl
        have n03 := cell_heap (i := 3) z0 rfl
        have n04 := cell_heap (i := 4) z0 rfl
        have n05 := cell_heap (i := 5) z0 rfl
        clear z0
        have z1 := HJ_x12.out.n1
        have n10 := cell_heap (i := 0) z1 rfl
        have n11 := cell_heap (i := 1) z1 rfl
        have n12 := cell_heap (i := 2) z1 rfl
        have n13 := cell_heap (i := 3) z1 rfl
        have n14 := cell_heap (i := 4) z1 rfl
        have n15 := cell_heap (i := 5) z1 rfl
        clear z1
        have z2 := HJ_x12.out.n2
        have n20 := cell_heap (i := 0) z2 rfl
        have n21 := cell_heap (i := 1) z2 rfl
        have n22 := cell_heap (i := 2) z2 rfl
        have n23 := cell_heap (i := 3) z2 rfl
        have n24 := cell_heap (i := 4) z2 rfl
        have n25 := cell_heap (i := 5) z2 rfl
        clear z2
        obtain ⟨X, hX⟩ : ∃ X, X = x12.alloc (.cells #[.int .i64 k0, .int .i64 m0, .int .i64 l0, .int .i64 hh0, .slice ar0 r0.length cr0, .slice ak0 s0.length ck0, .int .i64 k1, .int .i64 m1, .int .i64 l1, .int .i64 hh1, .slice ar1 r1.length cr1, .slice ak1 s1.length ck1, .int .i64 k2, .int .i64 m2, .int .i64 l2, .int .i64 hh2, .slice ar2 r2.length cr2, .slice ak2 s2.length ck2] 44) := ⟨_, rfl⟩
        have hbX : Below x12.heap.size x12 X := by rw [hX]; exact (Below.refl _ x12).alloc (Nat.le_refl _) _
        have hzX : X.heap[x12.heap.size]? = some (.cells #[.int .i64 k0, .int .i64 m0, .int .i64 l0, .int .i64 hh0, .slice ar0 r0.length cr0, .slice ak0 s0.length ck0, .int .i64 k1, .int .i64 m1, .int .i64 l1, .int .i64 hh1, .slice ar1 r1.length cr1, .slice ak1 s1.length ck1, .int .i64 k2, .int .i64 m2, .int .i64 l2, .int .i64 hh2, .slice ar2 r2.length cr2, .slice ak2 s2.length ck2] 44 (0, 0)) := by rw [hX]; exact World.alloc_heap_new x12 _
        have hc := alt_of3 X _ (.mk k0 m0 l0 hh0 r0 s0) (.mk k1 m1 l1 hh1 r1 s1) (.mk k2 m2 l2 hh2 r2 s2) [.int .i64 k0, .int .i64 m0, .int .i64 l0, .int .i64 hh0, .slice ar0 r0.length cr0, .slice ak0 s0.length ck0] [.int .i64 k1, .int .i64 m1, .int .i64 l1, .int .i64 hh1, .slice ar1 r1.length cr1, .slice ak1 s1.length ck1] [.int .i64 k2, .int .i64 m2, .int .i64 l2, .int .i64 hh2, .slice ar2 r2.length cr2, .slice ak2 s2.length ck2] hzX ((G0.out.move (fun b hb => (hbX.block b (Nat.lt_of_lt_of_le hb HJ_x12.out.bel.size)).trans (HJ_x12.out.bel.block b hb))).mono (fun b hb => Nat.lt_of_lt_of_le hb (Nat.le_trans HJ_x12.out.bel.size hbX.size))) ((G1.out.move (fun b hb => (hbX.block b (Nat.lt_of_lt_of_le hb HJ_x12.out.bel.size)).trans (HJ_x12.out.bel.block b hb))).mono (fun b hb => Nat.lt_of_lt_of_le hb (Nat.le_trans HJ_x12.out.bel.size hbX.size))) ((G2.out.move (fun b hb => (hbX.block b (Nat.lt_of_lt_of_le hb HJ_x12.out.bel.size)).trans (HJ_x12.out.bel.block b hb))).mono (fun b hb => Nat.lt_of_lt_of_le hb (Nat.le_trans HJ_x12.out.bel.size hbX.size))) (by have hnd := HND.out; omega)
        rw [hX] at hc
        have HC := Lib.hid hc
        have HX := Lib.hid hX
        have HBX := Lib.hid hbX
        clear hc hX hbX hzX
        go_wp2_with fail
        refine HC.out.mono ?_
        rintro e w9 ⟨v0, v1, v2, v3, va, vb, v4, v5, v6, v7, rfl, hN9, hB9⟩
        rw [← HX.out] at hN9 hB9
        have HN9 := Lib.hid (HeldT.new (hN9.mono (fun b hb => hb.2)))
        have HB9 := Lib.hid ((HBX.out.trans (hB9.mono HBX.out.size)).alloc (HBX.out.trans (hB9.mono HBX.out.size)).size (.cells #[.int .i64 v0, .int .i64 v1, .int .i64 v2, .int .i64 v3, .slice va v4 v5, .slice vb v6 v7] 44))
        clear hN9 hB9 HC HX HBX n00 n01 n02 n03 n04 n05 n10 n11 n12 n13 n14 n15 n20 n21 n22 n23 n24 n25
        go_wp2_with fail
        go_meet
        exact ⟨_, rfl, ⟨HB9.out, HN9.out⟩⟩
      case rest =>
        obtain ⟨B13, rfl, hx⟩ := hcut
        obtain ⟨x13, rfl⟩ : ∃ x : World, x = wc := ⟨_, rfl⟩
        have HJ_x13 := Lib.hid (HJ_x12.out.below hx.out.1)
        have HH8_x13 := Lib.hid (HH8_x12.out.below hx.out.1)
        have HH9_x13 := Lib.hid (HH9_x12.out.below hx.out.1)
        have HH10_x13 := Lib.hid (HH10_x12.out.below hx.out.1)
        have HH11_x13 := Lib.hid (HH11_x12.out.below hx.out.1)
        have HH12_x13 := Lib.hid (HH12_x12.out.below hx.out.1)
        have HH13_x13 := Lib.hid hx.out.2
        clear hx HJ_x12 HH8_x12 HH9_x12 HH10_x12 HH11_x12 HH12_x12
        go_upto_region 10 with (fail)
        go_cut [14] (fun s14 wx => ∃ P : Bool, s14 = .bool P ∧ Aside0 ((P = true → (k0 ≠ 1 ∧ k1 ≠ 1 ∧ k2 ≠ 1) ∧ (k0 ≠ 5 ∧ k1 ≠ 5 ∧ k2 ≠ 5)) ∧ wx = x13))
        case first =>
          have z0 := HJ_x13.out.n0
          have n0 := cell_heap (i := 0) z0 rfl
          clear z0
          have z1 := HJ_x13.out.n1
          have n1 := cell_heap (i := 0) z1 rfl
          clear z1
          have z2 := HJ_x13.out.n2
          have n2 := cell_heap (i := 0) z2 rfl
          clear z2
          by_cases t0 : k0 = 1
          · have b0 : (k0 != 1) = false := by rw [t0]; rfl
            clear t0
            go_wp2_with fail
            go_meet
            exact ⟨false, rfl, ⟨(fun h => by cases h), rfl⟩⟩
          have b0 : (k0 != 1) = true := by rw [bne_iff_ne]; exact t0
          have T0 := Lib.hid t0
          clear t0
          by_cases t1 : k1 = 1
          · have b1 : (k1 != 1) = false := by rw [t1]; rfl
            clear t1
            go_wp2_with fail
            go_meet
            exact ⟨false, rfl, ⟨(fun h => by cases h), rfl⟩⟩
          have b1 : (k1 != 1) = true := by rw [bne_iff_ne]; exact t1
          have T1 := Lib.hid t1
          clear t1
          by_cases t2 : k2 = 1
          · have b2 : (k2 != 1) = false := by rw [t2]; rfl
            clear t2
            go_wp2_with fail
            go_meet
            exact ⟨false, rfl, ⟨(fun h => by cases h), rfl⟩⟩
          have b2 : (k2 != 1) = true := by rw [bne_iff_ne]; exact t2
          have T2 := Lib.hid t2
          clear t2
          by_cases t3 : k0 = 5
          · have b3 : (k0 != 5) = false := by rw [t3]; rfl
            clear t3
            go_wp2_with fail
            go_meet
            exact ⟨false, rfl, ⟨(fun h => by cases h), rfl⟩⟩
          have b3 : (k0 != 5) = true := by rw [bne_iff_ne]; exact t3
          have T3 := Lib.hid t3
          clear t3
          by_cases t4 : k1 = 5
          · have b4 : (k1 != 5) = false := by rw [t4]; rfl
            clear t4
            go_wp2_with fail
            go_meet
            exact ⟨false, rfl, ⟨(fun h => by cases h), rfl⟩⟩
          have b4 : (k1 != 5) = true := by rw [bne_iff_ne]; exact t4
          have T4 := Lib.hid t4
          clear t4
          by_cases t5 : k2 = 5
          · have b5 : (k2 != 5) = false := by rw [t5]; rfl
            clear t5
            go_wp2_with fail
            go_meet
            exact ⟨false, rfl, ⟨(fun h => by cases h), rfl⟩⟩
          have b5 : (k2 != 5) = true := by rw [bne_iff_ne]; exact t5
          have T5 := Lib.hid t5
          clear t5
          go_wp2_with fail
          go_meet
          exact ⟨true, rfl, ⟨fun _ => ⟨⟨T0.out, T1.out, T2.out⟩, T3.out, T4.out, T5.out⟩, rfl⟩⟩
        case rest =>
          obtain ⟨P, rfl, hx⟩ := hcut
          obtain rfl : wc = x13 := hx.out.2
          have HP := Lib.hid hx.out.1
          clear hx
          have LIM8 := Lib.hid (show NT.nodes (catT [catT [.mk k0 m0 l0 hh0 r0 s0, .mk k1 m1 l1 hh1 r1 s1], .mk k2 m2 l2 hh2 r2 s2]) < 4611686018427387903 by have hnd := HND.out; have h1 := catT_nodes [.mk k0 m0 l0 hh0 r0 s0, .mk k1 m1 l1 hh1 r1 s1]; have h2 := catT_nodes [.mk k1 m1 l1 hh1 r1 s1, .mk k2 m2 l2 hh2 r2 s2]; have h3 := altT_nodes [.mk k0 m0 l0 hh0 r0 s0, .mk k1 m1 l1 hh1 r1 s1]; have h4 := altT_nodes [.mk k1 m1 l1 hh1 r1 s1, .mk k2 m2 l2 hh2 r2 s2]; have h5 := catT_nodes [catT [.mk k0 m0 l0 hh0 r0 s0, .mk k1 m1 l1 hh1 r1 s1], .mk k2 m2 l2 hh2 r2 s2]; simp only [NT.nodesL] at h1 h2 h3 h4 h5; omega)
          have LIM9 := Lib.hid (show NT.nodes (catT [.mk k0 m0 l0 hh0 r0 s0, catT [.mk k1 m1 l1 hh1 r1 s1, .mk k2 m2 l2 hh2 r2 s2]]) < 4611686018427387903 by have hnd := HND.out; have h1 := catT_nodes [.mk k0 m0 l0 hh0 r0 s0, .mk k1 m1 l1 hh1 r1 s1]; have h2 := catT_nodes [.mk k1 m1 l1 hh1 r1 s1, .mk k2 m2 l2 hh2 r2 s2]; have h3 := altT_nodes [.mk k0 m0 l0 hh0 r0 s0, .mk k1 m1 l1 hh1 r1 s1]; have h4 := altT_nodes [.mk k1 m1 l1 hh1 r1 s1, .mk k2 m2 l2 hh2 r2 s2]; have h5 := catT_nodes [.mk k0 m0 l0 hh0 r0 s0, catT [.mk k1 m1 l1 hh1 r1 s1, .mk k2 m2 l2 hh2 r2 s2]]; simp only [NT.nodesL] at h1 h2 h3 h4 h5; omega)
          have LIM10 := Lib.hid (show NT.nodes (catT [.mk k0 m0 l0 hh0 r0 s0, .mk k1 m1 l1 hh1 r1 s1, .mk k2 m2 l2 hh2 r2 s2]) < 4611686018427387903 by have hnd := HND.out; have h1 := catT_nodes [.mk k0 m0 l0 hh0 r0 s0, .mk k1 m1 l1 hh1 r1 s1]; have h2 := catT_nodes [.mk k1 m1 l1 hh1 r1 s1, .mk k2 m2 l2 hh2 r2 s2]; have h3 := altT_nodes [.mk k0 m0 l0 hh0 r0 s0, .mk k1 m1 l1 hh1 r1 s1]; have h4 := altT_nodes [.mk k1 m1 l1 hh1 r1 s1, .mk k2 m2 l2 hh2 r2 s2]; have h5 := catT_nodes [.mk k0 m0 l0 hh0 r0 s0, .mk k1 m1 l1 hh1 r1 s1, .mk k2 m2 l2 hh2 r2 s2]; simp only [NT.nodesL] at h1 h2 h3 h4 h5; omega)
          have LIM11 := Lib.hid (show NT.nodes (altT [altT [.mk k0 m0 l0 hh0 r0 s0, .mk k1 m1 l1 hh1 r1 s1], .mk k2 m2 l2 hh2 r2 s2]) < 4611686018427387903 by have hnd := HND.out; have h1 := catT_nodes [.mk k0 m0 l0 hh0 r0 s0, .mk k1 m1 l1 hh1 r1 s1]; have h2 := catT_nodes [.mk k1 m1 l1 hh1 r1 s1, .mk k2 m2 l2 hh2 r2 s2]; have h3 := altT_nodes [.mk k0 m0 l0 hh0 r0 s0, .mk k1 m1 l1 hh1 r1 s1]; have h4 := altT_nodes [.mk k1 m1 l1 hh1 r1 s1, .mk k2 m2 l2 hh2 r2 s2]; have h5 := altT_nodes [altT [.mk k0 m0 l0 hh0 r0 s0, .mk k1 m1 l1 hh1 r1 s1], .mk k2 m2 l2 hh2 r2 s2]; simp only [NT.nodesL] at h1 h2 h3 h4 h5; omega)
          have LIM12 := Lib.hid (show NT.nodes (altT [.mk k0 m0 l0 hh0 r0 s0, altT [.mk k1 m1 l1 hh1 r1 s1, .mk k2 m2 l2 hh2 r2 s2]]) < 4611686018427387903 by have hnd := HND.out; have h1 := catT_nodes [.mk k0 m0 l0 hh0 r0 s0, .mk k1 m1 l1 hh1 r1 s1]; have h2 := catT_nodes [.mk k1 m1 l1 hh1 r1 s1, .mk k2 m2 l2 hh2 r2 s2]; have h3 := altT_nodes [.mk k0 m0 l0 hh0 r0 s0, .mk k1 m1 l1 hh1 r1 s1]; have h4 := altT_nodes [.mk k1 m1 l1 hh1 r1 s1, .mk k2 m2 l2 hh2 r2 s2]; have h5 := altT_nodes [.mk k0 m0 l0 hh0 r0 s0, altT [.mk k1 m1 l1 hh1 r1 s1, .mk k2 m2 l2 hh2 r2 s2]]; simp only [NT.nodesL] at h1 h2 h3 h4 h5; omega)
          have LIM13 := Lib.hid (show NT.nodes (altT [.mk k0 m0 l0 hh0 r0 s0, .mk k1 m1 l1 hh1 r1 s1, .mk k2 m2 l2 hh2 r2 s2]) < 4611686018427387903 by have hnd := HND.out; have h1 := catT_nodes [.mk k0 m0 l0 hh0 r0 s0, .mk k1 m1 l1 hh1 r1 s1]; have h2 := catT_nodes [.mk k1 m1 l1 hh1 r1 s1, .mk k2 m2 l2 hh2 r2 s2]; have h3 := altT_nodes [.mk k0 m0 l0 hh0 r0 s0, .mk k1 m1 l1 hh1 r1 s1]; have h4 := altT_nodes [.mk k1 m1 l1 hh1 r1 s1, .mk k2 m2 l2 hh2 r2 s2]; have h5 := altT_nodes [.mk k0 m0 l0 hh0 r0 s0, .mk k1 m1 l1 hh1 r1 s1, .mk k2 m2 l2 hh2 r2 s2]; simp only [NT.nodesL] at h1 h2 h3 h4 h5; omega)
          by_cases hP : P = true
          · skip
            subst hP
            obtain ⟨hk1, hk5⟩ := HP.out rfl
            have EQ89 := Lib.hid (cat_same9 (.mk k0 m0 l0 hh0 r0 s0) (.mk k1 m1 l1 hh1 r1 s1) (.mk k2 m2 l2 hh2 r2 s2) hk1 hk5 HND.out)
            have EQ810 := Lib.hid (cat_same10 (.mk k0 m0 l0 hh0 r0 s0) (.mk k1 m1 l1 hh1 r1 s1) (.mk k2 m2 l2 hh2 r2 s2) hk1 hk5 HND.out)
            clear hk1 hk5 HP
            by_cases t0 : k0 = 6
            · have b0 : (k0 == 6) = true := by rw [t0]; rfl
              clear t0
              have J := HJ_x13
              have E8 := HH8_x13
              have E9 := HH9_x13
              have E10 := HH10_x13
              have E11 := HH11_x13
              have E12 := HH12_x13
              have E13 := HH13_x13
              have n0 := cell_heap (i := 0) J.out.n0 rfl
              obtain ⟨a80, a81, a82, a83, a84, a85, e8, f8⟩ := E8.out.open
              have c80 := cell_heap (i := 0) e8 rfl
              have c81 := cell_heap (i := 1) e8 rfl
              have c82 := cell_heap (i := 2) e8 rfl
              have c83 := cell_heap (i := 3) e8 rfl
              have c84 := cell_heap (i := 4) e8 rfl
              have c85 := cell_heap (i := 5) e8 rfl
              have F8 := Lib.hid f8
              clear f8 e8
              obtain ⟨a90, a91, a92, a93, a94, a95, e9, f9⟩ := E9.out.open
              have c90 := cell_heap (i := 0) e9 rfl
              have c91 := cell_heap (i := 1) e9 rfl
              have c92 := cell_heap (i := 2) e9 rfl
              have c93 := cell_heap (i := 3) e9 rfl
              have c94 := cell_heap (i := 4) e9 rfl
              have c95 := cell_heap (i := 5) e9 rfl
              have F9 := Lib.hid f9
              clear f9 e9
              go_wp2_with fail
              have hc := Same_calls _ (catT [catT [.mk k0 m0 l0 hh0 r0 s0, .mk k1 m1 l1 hh1 r1 s1], .mk k2 m2 l2 hh2 r2 s2]) (catT [.mk k0 m0 l0 hh0 r0 s0, catT [.mk k1 m1 l1 hh1 r1 s1, .mk k2 m2 l2 hh2 r2 s2]]) _ _ _ (Nat.le_refl _) F8.out F9.out (by have := LIM8.out; omega) (by have := LIM9.out; omega)
              rw [EQ89.out] at hc
              refine hc.mono ?_
              rintro e y1 ⟨rfl, hb⟩
              clear hc
              have E8 := Lib.hid (E8.out.below hb)
              have E9 := Lib.hid (E9.out.below hb)
              have E10 := Lib.hid (E10.out.below hb)
              have E11 := Lib.hid (E11.out.below hb)
              have E12 := Lib.hid (E12.out.below hb)
              have E13 := Lib.hid (E13.out.below hb)
              have J := Lib.hid (J.out.below hb)
              clear hb c80 c81 c82 c83 c84 c85 c90 c91 c92 c93 c94 c95 n0
              have n0 := cell_heap (i := 0) J.out.n0 rfl
              obtain ⟨a80, a81, a82, a83, a84, a85, e8, f8⟩ := E8.out.open
              have c80 := cell_heap (i := 0) e8 rfl
              have c81 := cell_heap (i := 1) e8 rfl
              have c82 := cell_heap (i := 2) e8 rfl
              have c83 := cell_heap (i := 3) e8 rfl
              have c84 := cell_heap (i := 4) e8 rfl
              have c85 := cell_heap (i := 5) e8 rfl
              have F8 := Lib.hid f8
              clear f8 e8
              obtain ⟨a100, a101, a102, a103, a104, a105, e10, f10⟩ := E10.out.open
              have c100 := cell_heap (i := 0) e10 rfl
              have c101 := cell_heap (i := 1) e10 rfl
              have c102 := cell_heap (i := 2) e10 rfl
              have c103 := cell_heap (i := 3) e10 rfl
              have c104 := cell_heap (i := 4) e10 rfl
              have c105 := cell_heap (i := 5) e10 rfl
              have F10 := Lib.hid f10
              clear f10 e10
              go_wp2_with fail
              have hc := Same_calls _ (catT [catT [.mk k0 m0 l0 hh0 r0 s0, .mk k1 m1 l1 hh1 r1 s1], .mk k2 m2 l2 hh2 r2 s2]) (catT [.mk k0 m0 l0 hh0 r0 s0, .mk k1 m1 l1 hh1 r1 s1, .mk k2 m2 l2 hh2 r2 s2]) _ _ _ (Nat.le_refl _) F8.out F10.out (by have := LIM8.out; omega) (by have := LIM10.out; omega)
              rw [EQ810.out] at hc
              refine hc.mono ?_
              rintro e y2 ⟨rfl, hb⟩
              clear hc
              have E8 := Lib.hid (E8.out.below hb)
              have E9 := Lib.hid (E9.out.below hb)
              have E10 := Lib.hid (E10.out.below hb)
              have E11 := Lib.hid (E11.out.below hb)
              have E12 := Lib.hid (E12.out.below hb)
              have E13 := Lib.hid (E13.out.below hb)
              have J := Lib.hid (J.out.below hb)
              clear hb c80 c81 c82 c83 c84 c85 c100 c101 c102 c103 c104 c105 n0
              have n0 := cell_heap (i := 0) J.out.n0 rfl
              go_wp2_with fail
              go_ret
              exact ⟨rfl, J.out.bel⟩
            have b0 : (k0 == 6) = false := beq_eq_false_iff_ne.2 t0
            have T0 := Lib.hid t0
            clear t0
            by_cases t1 : k1 = 6
            · have b1 : (k1 == 6) = true := by rw [t1]; rfl
              clear t1
              have J := HJ_x13
              have E8 := HH8_x13
              have E9 := HH9_x13
              have E10 := HH10_x13
              have E11 := HH11_x13
              have E12 := HH12_x13
              have E13 := HH13_x13
              have n0 := cell_heap (i := 0) J.out.n0 rfl
              have n1 := cell_heap (i := 0) J.out.n1 rfl
              obtain ⟨a80, a81, a82, a83, a84, a85, e8, f8⟩ := E8.out.open
              have c80 := cell_heap (i := 0) e8 rfl
              have c81 := cell_heap (i := 1) e8 rfl
              have c82 := cell_heap (i := 2) e8 rfl
              have c83 := cell_heap (i := 3) e8 rfl
              have c84 := cell_heap (i := 4) e8 rfl
              have c85 := cell_heap (i := 5) e8 rfl
              have F8 := Lib.hid f8
              clear f8 e8
              obtain ⟨a90, a91, a92, a93, a94, a95, e9, f9⟩ := E9.out.open
              have c90 := cell_heap (i := 0) e9 rfl
              have c91 := cell_heap (i := 1) e9 rfl
              have c92 := cell_heap (i := 2) e9 rfl
              have c93 := cell_heap (i := 3) e9 rfl
              have c94 := cell_heap (i := 4) e9 rfl
              have c95 := cell_heap (i := 5) e9 rfl
              have F9 := Lib.hid f9
              clear f9 e9
              go_wp2_with fail
              have hc := Same_calls _ (catT [catT [.mk k0 m0 l0 hh0 r0 s0, .mk k1 m1 l1 hh1 r1 s1], .mk k2 m2 l2 hh2 r2 s2]) (catT [.mk k0 m0 l0 hh0 r0 s0, catT [.mk k1 m1 l1 hh1 r1 s1, .mk k2 m2 l2 hh2 r2 s2]]) _ _ _ (Nat.le_refl _) F8.out F9.out (by have := LIM8.out; omega) (by have := LIM9.out; omega)
              rw [EQ89.out] at hc
              refine hc.mono ?_
              rintro e y1 ⟨rfl, hb⟩
              clear hc
              have E8 := Lib.hid (E8.out.below hb)
              have E9 := Lib.hid (E9.out.below hb)
              have E10 := Lib.hid (E10.out.below hb)
              have E11 := Lib.hid (E11.out.below hb)
              have E12 := Lib.hid (E12.out.below hb)
              have E13 := Lib.hid (E13.out.below hb)
              have J := Lib.hid (J.out.below hb)
              clear hb c80 c81 c82 c83 c84 c85 c90 c91 c92 c93 c94 c95 n0 n1
              have n0 := cell_heap (i := 0) J.out.n0 rfl
              have n1 := cell_heap (i := 0) J.out.n1 rfl
              obtain ⟨a80, a81, a82, a83, a84, a85, e8, f8⟩ := E8.out.open
              have c80 := cell_heap (i := 0) e8 rfl
              have c81 := cell_heap (i := 1) e8 rfl
              have c82 := cell_heap (i := 2) e8 rfl
              have c83 := cell_heap (i := 3) e8 rfl
              have c84 := cell_heap (i := 4) e8 rfl
              have c85 := cell_heap (i := 5) e8 rfl
              have F8 := Lib.hid f8
              clear f8 e8
              obtain ⟨a100, a101, a102, a103, a104, a105, e10, f10⟩ := E10.out.open
              have c100 := cell_heap (i := 0) e10 rfl
              have c101 := cell_heap (i := 1) e10 rfl
              have c102 := cell_heap (i := 2) e10 rfl
              have c103 := cell_heap (i := 3) e10 rfl
              have c104 := cell_heap (i := 4) e10 rfl
              have c105 := cell_heap (i := 5) e10 rfl
              have F10 := Lib.hid f10
              clear f10 e10
              go_wp2_with fail
              have hc := Same_calls _ (catT [catT [.mk k0 m0 l0 hh0 r0 s0, .mk k1 m1 l1 hh1 r1 s1], .mk k2 m2 l2 hh2 r2 s2]) (catT [.mk k0 m0 l0 hh0 r0 s0, .mk k1 m1 l1 hh1 r1 s1, .mk k2 m2 l2 hh2 r2 s2]) _ _ _ (Nat.le_refl _) F8.out F10.out (by have := LIM8.out; omega) (by have := LIM10.out; omega)
              rw [EQ810.out] at hc
              refine hc.mono ?_
              rintro e y2 ⟨rfl, hb⟩
              clear hc
              have E8 := Lib.hid (E8.out.below hb)
              have E9 := Lib.hid (E9.out.below hb)
              have E10 := Lib.hid (E10.out.below hb)
              have E11 := Lib.hid (E11.out.below hb)
              have E12 := Lib.hid (E12.out.below hb)
              have E13 := Lib.hid (E13.out.below hb)
              have J := Lib.hid (J.out.below hb)
              clear hb c80 c81 c82 c83 c84 c85 c100 c101 c102 c103 c104 c105 n0 n1
              have n0 := cell_heap (i := 0) J.out.n0 rfl
              have n1 := cell_heap (i := 0) J.out.n1 rfl
              go_wp2_with fail
              go_ret
              exact ⟨rfl, J.out.bel⟩
            have b1 : (k1 == 6) = false := beq_eq_false_iff_ne.2 t1
            have T1 := Lib.hid t1
            clear t1
            by_cases t2 : k2 = 6
            · have b2 : (k2 == 6) = true := by rw [t2]; rfl
              clear t2
              have J := HJ_x13
              have E8 := HH8_x13
              have E9 := HH9_x13
              have E10 := HH10_x13
              have E11 := HH11_x13
              have E12 := HH12_x13
              have E13 := HH13_x13
              have n0 := cell_heap (i := 0) J.out.n0 rfl
              have n1 := cell_heap (i := 0) J.out.n1 rfl
              have n2 := cell_heap (i := 0) J.out.n2 rfl
              obtain ⟨a80, a81, a82, a83, a84, a85, e8, f8⟩ := E8.out.open
              have c80 := cell_heap (i := 0) e8 rfl
              have c81 := cell_heap (i := 1) e8 rfl
              have c82 := cell_heap (i := 2) e8 rfl
              have c83 := cell_heap (i := 3) e8 rfl
              have c84 := cell_heap (i := 4) e8 rfl
              have c85 := cell_heap (i := 5) e8 rfl
              have F8 := Lib.hid f8
              clear f8 e8
              obtain ⟨a90, a91, a92, a93, a94, a95, e9, f9⟩ := E9.out.open
              have c90 := cell_heap (i := 0) e9 rfl
              have c91 := cell_heap (i := 1) e9 rfl
              have c92 := cell_heap (i := 2) e9 rfl
              have c93 := cell_heap (i := 3) e9 rfl
              have c94 := cell_heap (i := 4) e9 rfl
              have c95 := cell_heap (i := 5) e9 rfl
              have F9 := Lib.hid f9
              clear f9 e9
              go_wp2_with fail
              have hc := Same_calls _ (catT [catT [.mk k0 m0 l0 hh0 r0 s0, .mk k1 m1 l1 hh1 r1 s1], .mk k2 m2 l2 hh2 r2 s2]) (catT [.mk k0 m0 l0 hh0 r0 s0, catT [.mk k1 m1 l1 hh1 r1 s1, .mk k2 m2 l2 hh2 r2 s2]]) _ _ _ (Nat.le_refl _) F8.out F9.out (by have := LIM8.out; omega) (by have := LIM9.out; omega)
              rw [EQ89.out] at hc
              refine hc.mono ?_
              rintro e y1 ⟨rfl, hb⟩
              clear hc
              have E8 := Lib.hid (E8.out.below hb)
              have E9 := Lib.hid (E9.out.below hb)
              have E10 := Lib.hid (E10.out.below hb)
              have E11 := Lib.hid (E11.out.below hb)
              have E12 := Lib.hid (E12.out.below hb)
              have E13 := Lib.hid (E13.out.below hb)
              have J := Lib.hid (J.out.below hb)
              clear hb c80 c81 c82 c83 c84 c85 c90 c91 c92 c93 c94 c95 n0 n1 n2
              have n0 := cell_heap (i := 0) J.out.n0 rfl
              have n1 := cell_heap (i := 0) J.out.n1 rfl
              have n2 := cell_heap (i := 0) J.out.n2 rfl
              obtain ⟨a80, a81, a82, a83, a84, a85, e8, f8⟩ := E8.out.open
              have c80 := cell_heap (i := 0) e8 rfl
              have c81 := cell_heap (i := 1) e8 rfl
              have c82 := cell_heap (i := 2) e8 rfl
              have c83 := cell_heap (i := 3) e8 rfl
              have c84 := cell_heap (i := 4) e8 rfl
              have c85 := cell_heap (i := 5) e8 rfl
              have F8 := Lib.hid f8
              clear f8 e8
              obtain ⟨a100, a101, a102, a103, a104, a105, e10, f10⟩ := E10.out.open
              have c100 := cell_heap (i := 0) e10 rfl
              have c101 := cell_heap (i := 1) e10 rfl
              have c102 := cell_heap (i := 2) e10 rfl
              have c103 := cell_heap (i := 3) e10 rfl
              have c104 := cell_heap (i := 4) e10 rfl
              have c105 := cell_heap (i := 5) e10 rfl
              have F10 := Lib.hid f10
              clear f10 e10
              go_wp2_with fail
              have hc := Same_calls _ (catT [catT [.mk k0 m0 l0 hh0 r0 s0, .mk k1 m1 l1 hh1 r1 s1], .mk k2 m2 l2 hh2 r2 s2]) (catT [.mk k0 m0 l0 hh0 r0 s0, .mk k1 m1 l1 hh1 r1 s1, .mk k2 m2 l2 hh2 r2 s2]) _ _ _ (Nat.le_refl _) F8.out F10.out (by have := LIM8.out; omega) (by have := LIM10.out; omega)
              rw [EQ810.out] at hc
              refine hc.mono ?_
              rintro e y2 ⟨rfl, hb⟩
              clear hc
              have E8 := Lib.hid (E8.out.below hb)
              have E9 := Lib.hid (E9.out.below hb)
              have E10 := Lib.hid (E10.out.below hb)
              have E11 := Lib.hid (E11.out.below hb)
              have E12 := Lib.hid (E12.out.below hb)
              have E13 := Lib.hid (E13.out.below hb)
              have J := Lib.hid (J.out.below hb)
              clear hb c80 c81 c82 c83 c84 c85 c100 c101 c102 c103 c104 c105 n0 n1 n2
              have n0 := cell_heap (i := 0) J.out.n0 rfl
              have n1 := cell_heap (i := 0) J.out.n1 rfl
              have n2 := cell_heap (i := 0) J.out.n2 rfl
              go_wp2_with fail
              go_ret
              exact ⟨rfl, J.out.bel⟩
            have b2 : (k2 == 6) = false := beq_eq_false_iff_ne.2 t2
            have T2 := Lib.hid t2
            clear t2
            have EQ1112 := Lib.hid (alt_same12 (.mk k0 m0 l0 hh0 r0 s0) (.mk k1 m1 l1 hh1 r1 s1) (.mk k2 m2 l2 hh2 r2 s2) ⟨T0.out, T1.out, T2.out⟩ HND.out)
            have EQ1113 := Lib.hid (alt_same13 (.mk k0 m0 l0 hh0 r0 s0) (.mk k1 m1 l1 hh1 r1 s1) (.mk k2 m2 l2 hh2 r2 s2) ⟨T0.out, T1.out, T2.out⟩ HND.out)
            have J := HJ_x13
            have E8 := HH8_x13
            have E9 := HH9_x13
            have E10 := HH10_x13
            have E11 := HH11_x13
            have E12 := HH12_x13
            have E13 := HH13_x13
            have n0 := cell_heap (i := 0) J.out.n0 rfl
            have n1 := cell_heap (i := 0) J.out.n1 rfl
            have n2 := cell_heap (i := 0) J.out.n2 rfl
            obtain ⟨a80, a81, a82, a83, a84, a85, e8, f8⟩ := E8.out.open
            have c80 := cell_heap (i := 0) e8 rfl
            have c81 := cell_heap (i := 1) e8 rfl
            have c82 := cell_heap (i := 2) e8 rfl
            have c83 := cell_heap (i := 3) e8 rfl
            have c84 := cell_heap (i := 4) e8 rfl
            have c85 := cell_heap (i := 5) e8 rfl
            have F8 := Lib.hid f8
            clear f8 e8
            obtain ⟨a90, a91, a92, a93, a94, a95, e9, f9⟩ := E9.out.open
            have c90 := cell_heap (i := 0) e9 rfl
            have c91 := cell_heap (i := 1) e9 rfl
            have c92 := cell_heap (i := 2) e9 rfl
            have c93 := cell_heap (i := 3) e9 rfl
            have c94 := cell_heap (i := 4) e9 rfl
            have c95 := cell_heap (i := 5) e9 rfl
            have F9 := Lib.hid f9
            clear f9 e9
            go_wp2_with fail
            have hc := Same_calls _ (catT [catT [.mk k0 m0 l0 hh0 r0 s0, .mk k1 m1 l1 hh1 r1 s1], .mk k2 m2 l2 hh2 r2 s2]) (catT [.mk k0 m0 l0 hh0 r0 s0, catT [.mk k1 m1 l1 hh1 r1 s1, .mk k2 m2 l2 hh2 r2 s2]]) _ _ _ (Nat.le_refl _) F8.out F9.out (by have := LIM8.out; omega) (by have := LIM9.out; omega)
            rw [EQ89.out] at hc
            refine hc.mono ?_
            rintro e y1 ⟨rfl, hb⟩
            clear hc
            have E8 := Lib.hid (E8.out.below hb)
            have E9 := Lib.hid (E9.out.below hb)
            have E10 := Lib.hid (E10.out.below hb)
            have E11 := Lib.hid (E11.out.below hb)
            have E12 := Lib.hid (E12.out.below hb)
            have E13 := Lib.hid (E13.out.below hb)
            have J := Lib.hid (J.out.below hb)
            clear hb c80 c81 c82 c83 c84 c85 c90 c91 c92 c93 c94 c95 n0 n1 n2
            have n0 := cell_heap (i := 0) J.out.n0 rfl
            have n1 := cell_heap (i := 0) J.out.n1 rfl
            have n2 := cell_heap (i := 0) J.out.n2 rfl
            obtain ⟨a80, a81, a82, a83, a84, a85, e8, f8⟩ := E8.out.open
            have c80 := cell_heap (i := 0) e8 rfl
            have c81 := cell_heap (i := 1) e8 rfl
            have c82 := cell_heap (i := 2) e8 rfl
            have c83 := cell_heap (i := 3) e8 rfl
            have c84 := cell_heap (i := 4) e8 rfl
            have c85 := cell_heap (i := 5) e8 rfl
            have F8 := Lib.hid f8
            clear f8 e8
            obtain ⟨a100, a101, a102, a103, a104, a105, e10, f10⟩ := E10.out.open
            have c100 := cell_heap (i := 0) e10 rfl
            have c101 := cell_heap (i := 1) e10 rfl
            have c102 := cell_heap (i := 2) e10 rfl
            have c103 := cell_heap (i := 3) e10 rfl
            have c104 := cell_heap (i := 4) e10 rfl
            have c105 := cell_heap (i := 5) e10 rfl
            have F10 := Lib.hid f10
            clear f10 e10
            go_wp2_with fail
            have hc := Same_calls _ (catT [catT [.mk k0 m0 l0 hh0 r0 s0, .mk k1 m1 l1 hh1 r1 s1], .mk k2 m2 l2 hh2 r2 s2]) (catT [.mk k0 m0 l0 hh0 r0 s0, .mk k1 m1 l1 hh1 r1 s1, .mk k2 m2 l2 hh2 r2 s2]) _ _ _ (Nat.le_refl _) F8.out F10.out (by have := LIM8.out; omega) (by have := LIM10.out; omega)
            rw [EQ810.out] at hc
            refine hc.mono ?_
            rintro e y2 ⟨rfl, hb⟩
            clear hc
            have E8 := Lib.hid (E8.out.below hb)
            have E9 := Lib.hid (E9.out.below hb)
            have E10 := Lib.hid (E10.out.below hb)
            have E11 := Lib.hid (E11.out.below hb)
            have E12 := Lib.hid (E12.out.below hb)
            have E13 := Lib.hid (E13.out.below hb)
            have J := Lib.hid (J.out.below hb)
            clear hb c80 c81 c82 c83 c84 c85 c100 c101 c102 c103 c104 c105 n0 n1 n2
            have n0 := cell_heap (i := 0) J.out.n0 rfl
            have n1 := cell_heap (i := 0) J.out.n1 rfl
            have n2 := cell_heap (i := 0) J.out.n2 rfl
            obtain ⟨a110, a111, a112, a113, a114, a115, e11, f11⟩ := E11.out.open
            have c110 := cell_heap (i := 0) e11 rfl
            have c111 := cell_heap (i := 1) e11 rfl
            have c112 := cell_heap (i := 2) e11 rfl
            have c113 := cell_heap (i := 3) e11 rfl
            have c114 := cell_heap (i := 4) e11 rfl
            have c115 := cell_heap (i := 5) e11 rfl
            have F11 := Lib.hid f11
            clear f11 e11
            obtain ⟨a120, a121, a122, a123, a124, a125, e12, f12⟩ := E12.out.open
            have c120 := cell_heap (i := 0) e12 rfl
            have c121 := cell_heap (i := 1) e12 rfl
            have c122 := cell_heap (i := 2) e12 rfl
            have c123 := cell_heap (i := 3) e12 rfl
            have c124 := cell_heap (i := 4) e12 rfl
            have c125 := cell_heap (i := 5) e12 rfl
            have F12 := Lib.hid f12
            clear f12 e12
            go_wp2_with fail
            have hc := Same_calls _ (altT [altT [.mk k0 m0 l0 hh0 r0 s0, .mk k1 m1 l1 hh1 r1 s1], .mk k2 m2 l2 hh2 r2 s2]) (altT [.mk k0 m0 l0 hh0 r0 s0, altT [.mk k1 m1 l1 hh1 r1 s1, .mk k2 m2 l2 hh2 r2 s2]]) _ _ _ (Nat.le_refl _) F11.out F12.out (by have := LIM11.out; omega) (by have := LIM12.out; omega)
            rw [EQ1112.out] at hc
            refine hc.mono ?_
            rintro e y3 ⟨rfl, hb⟩
            clear hc
            have E8 := Lib.hid (E8.out.below hb)
            have E9 := Lib.hid (E9.out.below hb)
            have E10 := Lib.hid (E10.out.below hb)
            have E11 := Lib.hid (E11.out.below hb)
            have E12 := Lib.hid (E12.out.below hb)
            have E13 := Lib.hid (E13.out.below hb)
            have J := Lib.hid (J.out.below hb)
            clear hb c110 c111 c112 c113 c114 c115 c120 c121 c122 c123 c124 c125 n0 n1 n2
            have n0 := cell_heap (i := 0) J.out.n0 rfl
            have n1 := cell_heap (i := 0) J.out.n1 rfl
            have n2 := cell_heap (i := 0) J.out.n2 rfl
            obtain ⟨a110, a111, a112, a113, a114, a115, e11, f11⟩ := E11.out.open
            have c110 := cell_heap (i := 0) e11 rfl
            have c111 := cell_heap (i := 1) e11 rfl
            have c112 := cell_heap (i := 2) e11 rfl
            have c113 := cell_heap (i := 3) e11 rfl
            have c114 := cell_heap (i := 4) e11 rfl
            have c115 := cell_heap (i := 5) e11 rfl
            have F11 := Lib.hid f11
            clear f11 e11
            obtain ⟨a130, a131, a132, a133, a134, a135, e13, f13⟩ := E13.out.open
            have c130 := cell_heap (i := 0) e13 rfl
            have c131 := cell_heap (i := 1) e13 rfl
            have c132 := cell_heap (i := 2) e13 rfl
            have c133 := cell_heap (i := 3) e13 rfl
            have c134 := cell_heap (i := 4) e13 rfl
            have c135 := cell_heap (i := 5) e13 rfl
            have F13 := Lib.hid f13
            clear f13 e13
            go_wp2_with fail
            have hc := Same_calls _ (altT [altT [.mk k0 m0 l0 hh0 r0 s0, .mk k1 m1 l1 hh1 r1 s1], .mk k2 m2 l2 hh2 r2 s2]) (altT [.mk k0 m0 l0 hh0 r0 s0, .mk k1 m1 l1 hh1 r1 s1, .mk k2 m2 l2 hh2 r2 s2]) _ _ _ (Nat.le_refl _) F11.out F13.out (by have := LIM11.out; omega) (by have := LIM13.out; omega)
            rw [EQ1113.out] at hc
            refine hc.mono ?_
            rintro e y4 ⟨rfl, hb⟩
            clear hc
            have E8 := Lib.hid (E8.out.below hb)
            have E9 := Lib.hid (E9.out.below hb)
            have E10 := Lib.hid (E10.out.below hb)
            have E11 := Lib.hid (E11.out.below hb)
            have E12 := Lib.hid (E12.out.below hb)
            have E13 := Lib.hid (E13.out.below hb)
            have J := Lib.hid (J.out.below hb)
            clear hb c110 c111 c112 c113 c114 c115 c130 c131 c132 c133 c134 c135 n0 n1 n2
            have n0 := cell_heap (i := 0) J.out.n0 rfl
            have n1 := cell_heap (i := 0) J.out.n1 rfl
            have n2 := cell_heap (i := 0) J.out.n2 rfl
            go_wp2_with fail
            go_ret
            exact ⟨rfl, J.out.bel⟩
          · skip
            obtain rfl : P = false := by cases P; rfl; exact absurd rfl hP
            clear hP HP
            by_cases t0 : k0 = 6
            · have b0 : (k0 == 6) = true := by rw [t0]; rfl
              clear t0
              have J := HJ_x13
              have E8 := HH8_x13
              have E9 := HH9_x13
              have E10 := HH10_x13
              have E11 := HH11_x13
              have E12 := HH12_x13
              have E13 := HH13_x13
              have n0 := cell_heap (i := 0) J.out.n0 rfl
              go_wp2_with fail
              go_ret
              exact ⟨rfl, J.out.bel⟩
            have b0 : (k0 == 6) = false := beq_eq_false_iff_ne.2 t0
            have T0 := Lib.hid t0
            clear t0
            by_cases t1 : k1 = 6
            · have b1 : (k1 == 6) = true := by rw [t1]; rfl
              clear t1
              have J := HJ_x13
              have E8 := HH8_x13
              have E9 := HH9_x13
              have E10 := HH10_x13
              have E11 := HH11_x13
              have E12 := HH12_x13
              have E13 := HH13_x13
              have n0 := cell_heap (i := 0) J.out.n0 rfl
              have n1 := cell_heap (i := 0) J.out.n1 rfl
              go_wp2_with fail
              go_ret
              exact ⟨rfl, J.out.bel⟩
            have b1 : (k1 == 6) = false := beq_eq_false_iff_ne.2 t1
            have T1 := Lib.hid t1
            clear t1
            by_cases t2 : k2 = 6
            · have b2 : (k2 == 6) = true := by rw [t2]; rfl
              clear t2
              have J := HJ_x13
              have E8 := HH8_x13
              have E9 := HH9_x13
              have E10 := HH10_x13
              have E11 := HH11_x13
              have E12 := HH12_x13
              have E13 := HH13_x13
              have n0 := cell_heap (i := 0) J.out.n0 rfl
              have n1 := cell_heap (i := 0) J.out.n1 rfl
              have n2 := cell_heap (i := 0) J.out.n2 rfl
              go_wp2_with fail
              go_ret
              exact ⟨rfl, J.out.bel⟩
            have b2 : (k2 == 6) = false := beq_eq_false_iff_ne.2 t2
            have T2 := Lib.hid t2
            clear t2
            have EQ1112 := Lib.hid (alt_same12 (.mk k0 m0 l0 hh0 r0 s0) (.mk k1 m1 l1 hh1 r1 s1) (.mk k2 m2 l2 hh2 r2 s2) ⟨T0.out, T1.out, T2.out⟩ HND.out)
            have EQ1113 := Lib.hid (alt_same13 (.mk k0 m0 l0 hh0 r0 s0) (.mk k1 m1 l1 hh1 r1 s1) (.mk k2 m2 l2 hh2 r2 s2) ⟨T0.out, T1.out, T2.out⟩ HND.out)
            have J := HJ_x13
            have E8 := HH8_x13
            have E9 := HH9_x13
            have E10 := HH10_x13
            have E11 := HH11_x13
            have E12 := HH12_x13
            have E13 := HH13_x13
            have n0 := cell_heap (i := 0) J.out.n0 rfl
            have n1 := cell_heap (i := 0) J.out.n1 rfl
            have n2 := cell_heap (i := 0) J.out.n2 rfl
            obtain ⟨a110, a111, a112, a113, a114, a115, e11, f11⟩ := E11.out.open
            have c110 := cell_heap (i := 0) e11 rfl
            have c111 := cell_heap (i := 1) e11 rfl
            have c112 := cell_heap (i := 2) e11 rfl
            have c113 := cell_heap (i := 3) e11 rfl
            have c114 := cell_heap (i := 4) e11 rfl
            have c115 := cell_heap (i := 5) e11 rfl
            have F11 := Lib.hid f11
            clear f11 e11
            obtain ⟨a120, a121, a122, a123, a124, a125, e12, f12⟩ := E12.out.open
            have c120 := cell_heap (i := 0) e12 rfl
            have c121 := cell_heap (i := 1) e12 rfl
            have c122 := cell_heap (i := 2) e12 rfl
            have c123 := cell_heap (i := 3) e12 rfl
            have c124 := cell_heap (i := 4) e12 rfl
            have c125 := cell_heap (i := 5) e12 rfl
            have F12 := Lib.hid f12
            clear f12 e12
            go_wp2_with fail
            have hc := Same_calls _ (altT [altT [.mk k0 m0 l0 hh0 r0 s0, .mk k1 m1 l1 hh1 r1 s1], .mk k2 m2 l2 hh2 r2 s2]) (altT [.mk k0 m0 l0 hh0 r0 s0, altT [.mk k1 m1 l1 hh1 r1 s1, .mk k2 m2 l2 hh2 r2 s2]]) _ _ _ (Nat.le_refl _) F11.out F12.out (by have := LIM11.out; omega) (by have := LIM12.out; omega)
            rw [EQ1112.out] at hc
            refine hc.mono ?_
            rintro e y1 ⟨rfl, hb⟩
            clear hc
            have E8 := Lib.hid (E8.out.below hb)
            have E9 := Lib.hid (E9.out.below hb)
            have E10 := Lib.hid (E10.out.below hb)
            have E11 := Lib.hid (E11.out.below hb)
            have E12 := Lib.hid (E12.out.below hb)
            have E13 := Lib.hid (E13.out.below hb)
            have J := Lib.hid (J.out.below hb)
            clear hb c110 c111 c112 c113 c114 c115 c120 c121 c122 c123 c124 c125 n0 n1 n2
            have n0 := cell_heap (i := 0) J.out.n0 rfl
            have n1 := cell_heap (i := 0) J.out.n1 rfl
            have n2 := cell_heap (i := 0) J.out.n2 rfl
            obtain ⟨a110, a111, a112, a113, a114, a115, e11, f11⟩ := E11.out.open
            have c110 := cell_heap (i := 0) e11 rfl
            have c111 := cell_heap (i := 1) e11 rfl
            have c112 := cell_heap (i := 2) e11 rfl
            have c113 := cell_heap (i := 3) e11 rfl
            have c114 := cell_heap (i := 4) e11 rfl
            have c115 := cell_heap (i := 5) e11 rfl
            have F11 := Lib.hid f11
            clear f11 e11
            obtain ⟨a130, a131, a132, a133, a134, a135, e13, f13⟩ := E13.out.open
            have c130 := cell_heap (i := 0) e13 rfl
            have c131 := cell_heap (i := 1) e13 rfl
            have c132 := cell_heap (i := 2) e13 rfl
            have c133 := cell_heap (i := 3) e13 rfl
            have c134 := cell_heap (i := 4) e13 rfl
            have c135 := cell_heap (i := 5) e13 rfl
            have F13 := Lib.hid f13
            clear f13 e13
            go_wp2_with fail
            have hc := Same_calls _ (altT [altT [.mk k0 m0 l0 hh0 r0 s0, .mk k1 m1 l1 hh1 r1 s1], .mk k2 m2 l2 hh2 r2 s2]) (altT [.mk k0 m0 l0 hh0 r0 s0, .mk k1 m1 l1 hh1 r1 s1, .mk k2 m2 l2 hh2 r2 s2]) _ _ _ (Nat.le_refl _) F11.out F13.out (by have := LIM11.out; omega) (by have := LIM13.out; omega)
            rw [EQ1113.out] at hc
            refine hc.mono ?_
            rintro e y2 ⟨rfl, hb⟩
            clear hc
            have E8 := Lib.hid (E8.out.below hb)
            have E9 := Lib.hid (E9.out.below hb)
            have E10 := Lib.hid (E10.out.below hb)
            have E11 := Lib.hid (E11.out.below hb)
            have E12 := Lib.hid (E12.out.below hb)
            have E13 := Lib.hid (E13.out.below hb)
            have J := Lib.hid (J.out.below hb)
            clear hb c110 c111 c112 c113 c114 c115 c130 c131 c132 c133 c134 c135 n0 n1 n2
            have n0 := cell_heap (i := 0) J.out.n0 rfl
            have n1 := cell_heap (i := 0) J.out.n1 rfl
            have n2 := cell_heap (i := 0) J.out.n2 rfl
            go_wp2_with fail
            go_ret
            exact ⟨rfl, J.out.bel⟩

set_option maxHeartbeats 16000000 in
set_option maxRecDepth 100000 in
theorem joins_few (k0 m0 l0 hh0 k1 m1 l1 hh1 k2 m2 l2 hh2 : Int) (r0 r1 r2 : List S64) (s0 s1 s2 : List NT) (ar0 ak0 ar1 ak1 ar2 ak2 : Option Addr) (cr0 ck0 cr1 ck1 cr2 ck2 : Nat) (w : World) (g0 : NIn w (· < w.heap.size) (.mk k0 m0 l0 hh0 r0 s0) [.int .i64 k0, .int .i64 m0, .int .i64 l0, .int .i64 hh0, .slice ar0 r0.length cr0, .slice ak0 s0.length ck0]) (g1 : NIn w (· < w.heap.size) (.mk k1 m1 l1 hh1 r1 s1) [.int .i64 k1, .int .i64 m1, .int .i64 l1, .int .i64 hh1, .slice ar1 r1.length cr1, .slice ak1 s1.length ck1]) (g2 : NIn w (· < w.heap.size) (.mk k2 m2 l2 hh2 r2 s2) [.int .i64 k2, .int .i64 m2, .int .i64 l2, .int .i64 hh2, .slice ar2 r2.length cr2, .slice ak2 s2.length ck2]) (hn : (NT.nodes (.mk k0 m0 l0 hh0 r0 s0)) < 274877906944 ∧ (NT.nodes (.mk k1 m1 l1 hh1 r1 s1)) < 274877906944 ∧ (NT.nodes (.mk k2 m2 l2 hh2 r2 s2)) < 274877906944) (hm : ¬ 1900 < countT (.mk k0 m0 l0 hh0 r0 s0) + countT (.mk k1 m1 l1 hh1 r1 s1) + countT (.mk k2 m2 l2 hh2 r2 s2)) :
    Calls Try.prog 12 #[.agg #[.int .i64 k0, .int .i64 m0, .int .i64 l0, .int .i64 hh0, .slice ar0 r0.length cr0, .slice ak0 s0.length ck0], .agg #[.int .i64 k1, .int .i64 m1, .int .i64 l1, .int .i64 hh1, .slice ar1 r1.length cr1, .slice ak1 s1.length ck1], .agg #[.int .i64 k2, .int .i64 m2, .int .i64 l2, .int .i64 hh2, .slice ar2 r2.length cr2, .slice ak2 s2.length ck2]] w fun e w' => e = .returned (.bool true) ∧ Below w.heap.size w w' := by
  have G0 := Lib.hid g0
  have G1 := Lib.hid g1
  have G2 := Lib.hid g2
  clear g0 g1 g2
  obtain ⟨W3, hW3⟩ : ∃ W3, W3 = ((w.alloc (.cells #[.int .i64 k0, .int .i64 m0, .int .i64 l0, .int .i64 hh0, .slice ar0 r0.length cr0, .slice ak0 s0.length ck0] 44)).alloc (.cells #[.int .i64 k1, .int .i64 m1, .int .i64 l1, .int .i64 hh1, .slice ar1 r1.length cr1, .slice ak1 s1.length ck1] 44)).alloc (.cells #[.int .i64 k2, .int .i64 m2, .int .i64 l2, .int .i64 hh2, .slice ar2 r2.length cr2, .slice ak2 s2.length ck2] 44) := ⟨_, rfl⟩
  have HST := Lib.hid (show JS w W3 #[.int .i64 k0, .int .i64 m0, .int .i64 l0, .int .i64 hh0, .slice ar0 r0.length cr0, .slice ak0 s0.length ck0] #[.int .i64 k1, .int .i64 m1, .int .i64 l1, .int .i64 hh1, .slice ar1 r1.length cr1, .slice ak1 s1.length ck1] #[.int .i64 k2, .int .i64 m2, .int .i64 l2, .int .i64 hh2, .slice ar2 r2.length cr2, .slice ak2 s2.length ck2] by rw [hW3]; exact JS.start w _ _ _)
  have HW3 := Lib.hid hW3
  clear hW3
  have HNN := Lib.hid hn
  have HM := Lib.hid hm
  clear hn hm
  have HND := Lib.hid (few_nodes HM.out)
  go_enter Try.func12, Try.ntmps12
  go_wp2_with fail
  rw [← HW3.out]
  refine (examples_calls _).mono ?_
  rintro e w4 ⟨rfl, hb4⟩
  have HS4 := Lib.hid (HST.out.below hb4)
  clear hb4
  go_upto_region 2 with (fail)
  obtain ⟨q0, hq0⟩ : ∃ q, q = countT (.mk k0 m0 l0 hh0 r0 s0) := ⟨_, rfl⟩
  obtain ⟨q1, hq1⟩ : ∃ q, q = countT (.mk k1 m1 l1 hh1 r1 s1) := ⟨_, rfl⟩
  obtain ⟨q2, hq2⟩ : ∃ q, q = countT (.mk k2 m2 l2 hh2 r2 s2) := ⟨_, rfl⟩
  have HQ := Lib.hid (And.intro hq0 (And.intro hq1 hq2))
  have e1 : IntKind.i64.wrap (q0 + q1) = q0 + q1 := IntWalk.i64_in _ (by have h0 := count_bd hq0; have h1 := count_bd hq1; omega)
  have e2 : IntKind.i64.wrap (q0 + q1 + q2) = q0 + q1 + q2 := IntWalk.i64_in _ (by have h0 := count_bd hq0; have h1 := count_bd hq1; have h2 := count_bd hq2; omega)
  clear hq0 hq1 hq2
  have HBa := Lib.hid (show Below w4.heap.size w4 w4.drew from (Below.refl _ w4).drew)
  refine start_ (n := 9) (S := fun w' => Below w4.heap.size w4 w') (ds := []) #[false, false, false, false, false, false, false, false, false] (by kernel_rfl) rfl rfl HBa.out (fun hHeld => ?_)
  refine with_self (fun HT_ => ?_)
  generalize w4.drew = w_d at HBa hHeld ⊢
  refine take_ (i := 0) (N := some 16) (v := ?_) (a' := ?_) #[true, false, false, false, false, false, false, false, false] rfl rfl (take_of HT_.out (by kernel_rfl)) (fun _ _ _ h => h) (Or.inl ⟨by rfl, ?_⟩) hHeld ?_ ?_
  rotate_left
  · intro w' hS
    have hz := (hS.block _ (by have := HS4.out.sz; omega)).trans HS4.out.n0
    have n0 := cell_heap (i := 0) hz rfl
    have n1 := cell_heap (i := 1) hz rfl
    have n2 := cell_heap (i := 2) hz rfl
    have n3 := cell_heap (i := 3) hz rfl
    have n4 := cell_heap (i := 4) hz rfl
    have n5 := cell_heap (i := 5) hz rfl
    clear hz
    clear hS
    go_simp
    with_reducible rfl
  rotate_left
  · simp only [Act.put, List.setIfInBounds_toArray, List.set_cons_zero, List.set_cons_succ, i64_w, i32_w]
    rfl
  refine take_ (i := 2) (N := some 18) (v := ?_) (a' := ?_) #[true, false, true, false, false, false, false, false, false] rfl rfl (take_of HT_.out (by kernel_rfl)) (fun _ _ _ h => h) (Or.inl ⟨by rfl, ?_⟩) hHeld ?_ ?_
  rotate_left
  · intro w' hS
    have hz := (hS.block _ (by have := HS4.out.sz; omega)).trans HS4.out.n1
    have n0 := cell_heap (i := 0) hz rfl
    have n1 := cell_heap (i := 1) hz rfl
    have n2 := cell_heap (i := 2) hz rfl
    have n3 := cell_heap (i := 3) hz rfl
    have n4 := cell_heap (i := 4) hz rfl
    have n5 := cell_heap (i := 5) hz rfl
    clear hz
    clear hS
    go_simp
    with_reducible rfl
  rotate_left
  · simp only [Act.put, List.setIfInBounds_toArray, List.set_cons_zero, List.set_cons_succ, i64_w, i32_w]
    rfl
  refine take_ (i := 5) (N := some 21) (v := ?_) (a' := ?_) #[true, false, true, false, false, true, false, false, false] rfl rfl (take_of HT_.out (by kernel_rfl)) (fun _ _ _ h => h) (Or.inl ⟨by rfl, ?_⟩) hHeld ?_ ?_
  rotate_left
  · intro w' hS
    have hz := (hS.block _ (by have := HS4.out.sz; omega)).trans HS4.out.n2
    have n0 := cell_heap (i := 0) hz rfl
    have n1 := cell_heap (i := 1) hz rfl
    have n2 := cell_heap (i := 2) hz rfl
    have n3 := cell_heap (i := 3) hz rfl
    have n4 := cell_heap (i := 4) hz rfl
    have n5 := cell_heap (i := 5) hz rfl
    clear hz
    clear hS
    go_simp
    with_reducible rfl
  rotate_left
  · simp only [Act.put, List.setIfInBounds_toArray, List.set_cons_zero, List.set_cons_succ, i64_w, i32_w]
    rfl
  refine one_ (i := 1) (N := some 17) #[true, true, true, false, false, true, false, false, false] rfl rfl (one_of HT_.out (by kernel_rfl)) (by decide) (fun K hK => ?_)
  refine goes_ Try.func51 (by kernel_rfl) rfl #[.agg #[.int .i64 k0, .int .i64 m0, .int .i64 l0, .int .i64 hh0, .slice ar0 r0.length cr0, .slice ak0 s0.length ck0]] (by rfl) rfl rfl (by (try simp only [List.map_toArray, List.map_cons, List.map_nil]); first | done | rfl) ?_
  have hc := count_calls (.mk k0 m0 l0 hh0 r0 s0) _ w_d ((G0.out.move (fun b hb => (HBa.out.block b (Nat.lt_of_lt_of_le hb HS4.out.bel.size)).trans (HS4.out.bel.block b hb))).mono (fun b hb => Nat.lt_of_lt_of_le hb (Nat.le_trans HS4.out.bel.size HBa.out.size))) (by have := HNN.out; omega)
  rw [← HQ.out.1] at hc
  refine (hc).mono ?_
  rintro e w5 ⟨rfl, hB⟩
  have HB_w5 := Lib.hid (HBa.out.trans (hB.mono HBa.out.size))
  clear hB hc
  refine ⟨_, rfl, ?_⟩
  clear hHeld
  refine hK.out _ _ HB_w5.out (fun hHeld => ?_)
  clear hK K
  refine norm_ (a' := ?_) ?_ ?_
  rotate_left
  · show Act.put _ (some 17) _ = _
    simp only [Act.put, List.setIfInBounds_toArray, List.set_cons_zero, List.set_cons_succ, i64_w, i32_w]
    rfl
  refine one_ (i := 3) (N := some 19) #[true, true, true, true, false, true, false, false, false] rfl rfl (one_of HT_.out (by kernel_rfl)) (by decide) (fun K hK => ?_)
  refine goes_ Try.func51 (by kernel_rfl) rfl #[.agg #[.int .i64 k1, .int .i64 m1, .int .i64 l1, .int .i64 hh1, .slice ar1 r1.length cr1, .slice ak1 s1.length ck1]] (by rfl) rfl rfl (by (try simp only [List.map_toArray, List.map_cons, List.map_nil]); first | done | rfl) ?_
  have hc := count_calls (.mk k1 m1 l1 hh1 r1 s1) _ w5 ((G1.out.move (fun b hb => (HB_w5.out.block b (Nat.lt_of_lt_of_le hb HS4.out.bel.size)).trans (HS4.out.bel.block b hb))).mono (fun b hb => Nat.lt_of_lt_of_le hb (Nat.le_trans HS4.out.bel.size HB_w5.out.size))) (by have := HNN.out; omega)
  rw [← HQ.out.2.1] at hc
  refine (hc).mono ?_
  rintro e w6 ⟨rfl, hB⟩
  have HB_w6 := Lib.hid (HB_w5.out.trans (hB.mono HB_w5.out.size))
  clear hB hc
  refine ⟨_, rfl, ?_⟩
  clear hHeld
  refine hK.out _ _ HB_w6.out (fun hHeld => ?_)
  clear hK K
  refine norm_ (a' := ?_) ?_ ?_
  rotate_left
  · show Act.put _ (some 19) _ = _
    simp only [Act.put, List.setIfInBounds_toArray, List.set_cons_zero, List.set_cons_succ, i64_w, i32_w]
    rfl
  refine pure_ (i := 4) (N := some 20) (v := ?_) (a' := ?_) #[true, true, true, true, true, true, false, false, false] rfl rfl (any_of HT_.out (by kernel_rfl)) (fun _ _ _ h => h) (Or.inl ⟨by rfl, ?_⟩) ?_ ?_
  rotate_left
  · intro w'
    go_simp
    with_reducible rfl
  rotate_left
  · simp only [Act.put, List.setIfInBounds_toArray, List.set_cons_zero, List.set_cons_succ, i64_w, i32_w]
    rfl
  refine one_ (i := 6) (N := some 22) #[true, true, true, true, true, true, true, false, false] rfl rfl (one_of HT_.out (by kernel_rfl)) (by decide) (fun K hK => ?_)
  refine goes_ Try.func51 (by kernel_rfl) rfl #[.agg #[.int .i64 k2, .int .i64 m2, .int .i64 l2, .int .i64 hh2, .slice ar2 r2.length cr2, .slice ak2 s2.length ck2]] (by rfl) rfl rfl (by (try simp only [List.map_toArray, List.map_cons, List.map_nil]); first | done | rfl) ?_
  have hc := count_calls (.mk k2 m2 l2 hh2 r2 s2) _ w6 ((G2.out.move (fun b hb => (HB_w6.out.block b (Nat.lt_of_lt_of_le hb HS4.out.bel.size)).trans (HS4.out.bel.block b hb))).mono (fun b hb => Nat.lt_of_lt_of_le hb (Nat.le_trans HS4.out.bel.size HB_w6.out.size))) (by have := HNN.out; omega)
  rw [← HQ.out.2.2] at hc
  refine (hc).mono ?_
  rintro e w7 ⟨rfl, hB⟩
  have HB_w7 := Lib.hid (HB_w6.out.trans (hB.mono HB_w6.out.size))
  clear hB hc
  refine ⟨_, rfl, ?_⟩
  clear hHeld
  refine hK.out _ _ HB_w7.out (fun hHeld => ?_)
  clear hK K
  refine norm_ (a' := ?_) ?_ ?_
  rotate_left
  · show Act.put _ (some 22) _ = _
    simp only [Act.put, List.setIfInBounds_toArray, List.set_cons_zero, List.set_cons_succ, i64_w, i32_w]
    rfl
  refine pure_ (i := 7) (N := some 23) (v := ?_) (a' := ?_) #[true, true, true, true, true, true, true, true, false] rfl rfl (any_of HT_.out (by kernel_rfl)) (fun _ _ _ h => h) (Or.inl ⟨by rfl, ?_⟩) ?_ ?_
  rotate_left
  · intro w'
    go_simp
    with_reducible rfl
  rotate_left
  · simp only [Act.put, List.setIfInBounds_toArray, List.set_cons_zero, List.set_cons_succ, i64_w, i32_w]
    rfl
  refine pure_ (i := 8) (N := some 24) (v := ?_) (a' := ?_) #[true, true, true, true, true, true, true, true, true] rfl rfl (any_of HT_.out (by kernel_rfl)) (fun _ _ _ h => h) (Or.inl ⟨by rfl, ?_⟩) ?_ ?_
  rotate_left
  · intro w'
    go_simp
    with_reducible rfl
  rotate_left
  · simp only [Act.put, List.setIfInBounds_toArray, List.set_cons_zero, List.set_cons_succ, i64_w, i32_w]
    rfl
  refine done_ (done_of HT_.out (by kernel_rfl)) ?_
  clear HT_ hHeld
  have HS7 := Lib.hid (HS4.out.below HB_w7.out)
  have hgt : ¬ 1900 < q0 + q1 + q2 := by have h := HM.out; rw [← HQ.out.1, ← HQ.out.2.1, ← HQ.out.2.2] at h; omega
  clear e1 e2
  go_upto_region 4 with (fail)
  clear hgt HQ HB_w5 HB_w6 HB_w7 HBa HS4 HST HW3
  have HJ_w7 := HS7
  go_cut [8] (fun s8 wx => ∃ B : Nat, s8 = .pointer (some ⟨B, 0, none⟩) ∧ Aside0 (Below w7.heap.size w7 wx ∧ HeldT wx B (catT [catT [.mk k0 m0 l0 hh0 r0 s0, .mk k1 m1 l1 hh1 r1 s1], .mk k2 m2 l2 hh2 r2 s2])))
  case first =>
    have HB0w7 := Lib.hid (show Below w7.heap.size w7 w7.drew from (Below.refl _ w7).drew)
    refine start_ (n := 9) (S := fun w' => Below w7.heap.size w7 w') (ds := [8]) #[false, false, false, false, false, false, false, false, false] (by kernel_rfl) rfl rfl HB0w7.out (fun hHeld => ?_)
    refine with_self (fun HT_ => ?_)
    generalize w7.drew = u1 at HB0w7 hHeld ⊢
    refine take_ (i := 0) (N := some 26) (v := ?_) (a' := ?_) #[true, false, false, false, false, false, false, false, false] rfl rfl (take_of HT_.out (by kernel_rfl)) (fun _ _ _ h => h) (Or.inl ⟨by rfl, ?_⟩) hHeld ?_ ?_
    rotate_left
    · intro w' hS
      have hz := (hS.block _ (by have := HJ_w7.out.sz; omega)).trans HJ_w7.out.n0
      have n0 := cell_heap (i := 0) hz rfl
      have n1 := cell_heap (i := 1) hz rfl
      have n2 := cell_heap (i := 2) hz rfl
      have n3 := cell_heap (i := 3) hz rfl
      have n4 := cell_heap (i := 4) hz rfl
      have n5 := cell_heap (i := 5) hz rfl
      clear hz
      clear hS
      go_simp
      with_reducible rfl
    rotate_left
    · simp only [Act.put, List.setIfInBounds_toArray, List.set_cons_zero, List.set_cons_succ, i64_w, i32_w]
      rfl
    refine take_ (i := 1) (N := some 27) (v := ?_) (a' := ?_) #[true, true, false, false, false, false, false, false, false] rfl rfl (take_of HT_.out (by kernel_rfl)) (fun _ _ _ h => h) (Or.inl ⟨by rfl, ?_⟩) hHeld ?_ ?_
    rotate_left
    · intro w' hS
      have hz := (hS.block _ (by have := HJ_w7.out.sz; omega)).trans HJ_w7.out.n1
      have n0 := cell_heap (i := 0) hz rfl
      have n1 := cell_heap (i := 1) hz rfl
      have n2 := cell_heap (i := 2) hz rfl
      have n3 := cell_heap (i := 3) hz rfl
      have n4 := cell_heap (i := 4) hz rfl
      have n5 := cell_heap (i := 5) hz rfl
      clear hz
      clear hS
      go_simp
      with_reducible rfl
    rotate_left
    · simp only [Act.put, List.setIfInBounds_toArray, List.set_cons_zero, List.set_cons_succ, i64_w, i32_w]
      rfl
    refine take_ (i := 4) (N := some 30) (v := ?_) (a' := ?_) #[true, true, false, false, true, false, false, false, false] rfl rfl (take_of HT_.out (by kernel_rfl)) (fun _ _ _ h => h) (Or.inl ⟨by rfl, ?_⟩) hHeld ?_ ?_
    rotate_left
    · intro w' hS
      have hz := (hS.block _ (by have := HJ_w7.out.sz; omega)).trans HJ_w7.out.n2
      have n0 := cell_heap (i := 0) hz rfl
      have n1 := cell_heap (i := 1) hz rfl
      have n2 := cell_heap (i := 2) hz rfl
      have n3 := cell_heap (i := 3) hz rfl
      have n4 := cell_heap (i := 4) hz rfl
      have n5 := cell_heap (i := 5) hz rfl
      clear hz
      clear hS
      go_simp
      with_reducible rfl
    rotate_left
    · simp only [Act.put, List.setIfInBounds_toArray, List.set_cons_zero, List.set_cons_succ, i64_w, i32_w]
      rfl
    refine two_ (i := 2) (j := 7) (Ni := some 28) (Nj := some 8) #[true, true, true, false, true, false, false, false, false] #[true, true, false, false, true, false, false, true, false] rfl rfl rfl rfl HT_.out (by kernel_rfl) (by decide) (by decide) (fun K hK => ?_) (fun K hK => ?_)
    · skip
      refine value_ (v := .slice (some ⟨u1.heap.size, 0, none⟩) 2 2) (w1 := u1.alloc (.cells #[.int .i64 k0, .int .i64 m0, .int .i64 l0, .int .i64 hh0, .slice ar0 r0.length cr0, .slice ak0 s0.length ck0, .int .i64 k1, .int .i64 m1, .int .i64 l1, .int .i64 hh1, .slice ar1 r1.length cr1, .slice ak1 s1.length ck1] 44)) (by rfl) rfl (by go_simp; first | done | rfl) ?_
      obtain ⟨u2, hnw⟩ : ∃ x, x = u1.alloc (.cells #[.int .i64 k0, .int .i64 m0, .int .i64 l0, .int .i64 hh0, .slice ar0 r0.length cr0, .slice ak0 s0.length ck0, .int .i64 k1, .int .i64 m1, .int .i64 l1, .int .i64 hh1, .slice ar1 r1.length cr1, .slice ak1 s1.length ck1] 44) := ⟨_, rfl⟩
      rw [← hnw]
      have hB : Below u1.heap.size u1 u2 := by rw [hnw]; exact (Below.refl _ u1).alloc (Nat.le_refl _) _
      have HR_u2 := Lib.hid (show u2.heap[u1.heap.size]? = some (.cells #[.int .i64 k0, .int .i64 m0, .int .i64 l0, .int .i64 hh0, .slice ar0 r0.length cr0, .slice ak0 s0.length ck0, .int .i64 k1, .int .i64 m1, .int .i64 l1, .int .i64 hh1, .slice ar1 r1.length cr1, .slice ak1 s1.length ck1] 44 (0, 0)) by rw [hnw]; exact World.alloc_heap_new u1 _)
      clear hnw
      have HB_u2 := Lib.hid (HB0w7.out.trans (hB.mono HB0w7.out.size))
      clear hB hHeld
      refine hK.out _ _ HB_u2.out (fun hHeld => ?_)
      clear hK K
      refine norm_ (a' := ?_) ?_ ?_
      rotate_left
      · show Act.put _ (some 28) _ = _
        simp only [Act.put, List.setIfInBounds_toArray, List.set_cons_zero, List.set_cons_succ, i64_w, i32_w]
        rfl
      refine two_ (i := 3) (j := 7) (Ni := some 29) (Nj := some 8) #[true, true, true, true, true, false, false, false, false] #[true, true, true, false, true, false, false, true, false] rfl rfl rfl rfl HT_.out (by kernel_rfl) (by decide) (by decide) (fun K hK => ?_) (fun K hK => ?_)
      · skip
        refine goes_ Try.func55 (by kernel_rfl) rfl #[.slice (some ⟨u1.heap.size, 0, none⟩) 2 2] (by rfl) rfl rfl (by (try simp only [List.map_toArray, List.map_cons, List.map_nil]); first | done | rfl) ?_
        have hrb := ((Below.refl u2.heap.size u2).block _ (Array.getElem?_eq_some_iff.1 HR_u2.out).1).trans HR_u2.out
        refine (cat_of2 u2 _ (.mk k0 m0 l0 hh0 r0 s0) (.mk k1 m1 l1 hh1 r1 s1) [.int .i64 k0, .int .i64 m0, .int .i64 l0, .int .i64 hh0, .slice ar0 r0.length cr0, .slice ak0 s0.length ck0] [.int .i64 k1, .int .i64 m1, .int .i64 l1, .int .i64 hh1, .slice ar1 r1.length cr1, .slice ak1 s1.length ck1] hrb ((G0.out.move (fun b hb => (HB_u2.out.block b (Nat.lt_of_lt_of_le hb HJ_w7.out.bel.size)).trans (HJ_w7.out.bel.block b hb))).mono (fun b hb => Nat.lt_of_lt_of_le hb (Nat.le_trans HJ_w7.out.bel.size HB_u2.out.size))) ((G1.out.move (fun b hb => (HB_u2.out.block b (Nat.lt_of_lt_of_le hb HJ_w7.out.bel.size)).trans (HJ_w7.out.bel.block b hb))).mono (fun b hb => Nat.lt_of_lt_of_le hb (Nat.le_trans HJ_w7.out.bel.size HB_u2.out.size))) (by have hnd := HND.out; omega)).mono ?_
        rintro e u3 ⟨u4, u5, u6, u7, u8, u9, u10, u11, u12, u13, rfl, hNn, hB⟩
        have HN_u3 := Lib.hid hNn
        clear hNn hrb
        refine ⟨_, rfl, ?_⟩
        have HT_u2_u3 := Lib.hid hB
        have HB_u3 := Lib.hid (HB_u2.out.trans (hB.mono HB_u2.out.size))
        clear hB hHeld
        refine hK.out _ _ HB_u3.out (fun hHeld => ?_)
        clear hK K
        refine norm_ (a' := ?_) ?_ ?_
        rotate_left
        · show Act.put _ (some 29) _ = _
          simp only [Act.put, List.setIfInBounds_toArray, List.set_cons_zero, List.set_cons_succ, i64_w, i32_w]
          rfl
        refine two_ (i := 5) (j := 7) (Ni := some 31) (Nj := some 8) #[true, true, true, true, true, true, false, false, false] #[true, true, true, true, true, false, false, true, false] rfl rfl rfl rfl HT_.out (by kernel_rfl) (by decide) (by decide) (fun K hK => ?_) (fun K hK => ?_)
        · skip
          refine value_ (v := .slice (some ⟨u3.heap.size, 0, none⟩) 2 2) (w1 := u3.alloc (.cells #[.int .i64 u4, .int .i64 u5, .int .i64 u6, .int .i64 u7, .slice u8 u10 u11, .slice u9 u12 u13, .int .i64 k2, .int .i64 m2, .int .i64 l2, .int .i64 hh2, .slice ar2 r2.length cr2, .slice ak2 s2.length ck2] 44)) (by rfl) rfl (by go_simp; first | done | rfl) ?_
          obtain ⟨u14, hnw⟩ : ∃ x, x = u3.alloc (.cells #[.int .i64 u4, .int .i64 u5, .int .i64 u6, .int .i64 u7, .slice u8 u10 u11, .slice u9 u12 u13, .int .i64 k2, .int .i64 m2, .int .i64 l2, .int .i64 hh2, .slice ar2 r2.length cr2, .slice ak2 s2.length ck2] 44) := ⟨_, rfl⟩
          rw [← hnw]
          have hB : Below u3.heap.size u3 u14 := by rw [hnw]; exact (Below.refl _ u3).alloc (Nat.le_refl _) _
          have HR_u14 := Lib.hid (show u14.heap[u3.heap.size]? = some (.cells #[.int .i64 u4, .int .i64 u5, .int .i64 u6, .int .i64 u7, .slice u8 u10 u11, .slice u9 u12 u13, .int .i64 k2, .int .i64 m2, .int .i64 l2, .int .i64 hh2, .slice ar2 r2.length cr2, .slice ak2 s2.length ck2] 44 (0, 0)) by rw [hnw]; exact World.alloc_heap_new u3 _)
          clear hnw
          have HT_u2_u14 := Lib.hid (HT_u2_u3.out.trans (hB.mono HT_u2_u3.out.size))
          have HT_u3_u14 := Lib.hid hB
          have HB_u14 := Lib.hid (HB_u3.out.trans (hB.mono HB_u3.out.size))
          clear hB hHeld
          refine hK.out _ _ HB_u14.out (fun hHeld => ?_)
          clear hK K
          refine norm_ (a' := ?_) ?_ ?_
          rotate_left
          · show Act.put _ (some 31) _ = _
            simp only [Act.put, List.setIfInBounds_toArray, List.set_cons_zero, List.set_cons_succ, i64_w, i32_w]
            rfl
          refine two_ (i := 6) (j := 7) (Ni := some 32) (Nj := some 8) #[true, true, true, true, true, true, true, false, false] #[true, true, true, true, true, true, false, true, false] rfl rfl rfl rfl HT_.out (by kernel_rfl) (by decide) (by decide) (fun K hK => ?_) (fun K hK => ?_)
          · skip
            refine goes_ Try.func55 (by kernel_rfl) rfl #[.slice (some ⟨u3.heap.size, 0, none⟩) 2 2] (by rfl) rfl rfl (by (try simp only [List.map_toArray, List.map_cons, List.map_nil]); first | done | rfl) ?_
            have hrb := ((Below.refl u14.heap.size u14).block _ (Array.getElem?_eq_some_iff.1 HR_u14.out).1).trans HR_u14.out
            refine (cat_of2 u14 _ (catT [.mk k0 m0 l0 hh0 r0 s0, .mk k1 m1 l1 hh1 r1 s1]) (.mk k2 m2 l2 hh2 r2 s2) [.int .i64 u4, .int .i64 u5, .int .i64 u6, .int .i64 u7, .slice u8 u10 u11, .slice u9 u12 u13] [.int .i64 k2, .int .i64 m2, .int .i64 l2, .int .i64 hh2, .slice ar2 r2.length cr2, .slice ak2 s2.length ck2] hrb ((HN_u3.out.move (fun b hb => HT_u3_u14.out.block b hb.2)).mono (fun b hb => Nat.lt_of_lt_of_le hb.2 HT_u3_u14.out.size)) ((G2.out.move (fun b hb => (HB_u14.out.block b (Nat.lt_of_lt_of_le hb HJ_w7.out.bel.size)).trans (HJ_w7.out.bel.block b hb))).mono (fun b hb => Nat.lt_of_lt_of_le hb (Nat.le_trans HJ_w7.out.bel.size HB_u14.out.size))) (by have hnd := HND.out; have := catT_nodes [.mk k0 m0 l0 hh0 r0 s0, .mk k1 m1 l1 hh1 r1 s1]; simp only [NT.nodesL] at this; omega)).mono ?_
            rintro e u15 ⟨u16, u17, u18, u19, u20, u21, u22, u23, u24, u25, rfl, hNn, hB⟩
            have HN_u15 := Lib.hid hNn
            clear hNn hrb
            refine ⟨_, rfl, ?_⟩
            have HT_u2_u15 := Lib.hid (HT_u2_u14.out.trans (hB.mono HT_u2_u14.out.size))
            have HT_u3_u15 := Lib.hid (HT_u3_u14.out.trans (hB.mono HT_u3_u14.out.size))
            have HT_u14_u15 := Lib.hid hB
            have HB_u15 := Lib.hid (HB_u14.out.trans (hB.mono HB_u14.out.size))
            clear hB hHeld
            refine hK.out _ _ HB_u15.out (fun hHeld => ?_)
            clear hK K
            refine norm_ (a' := ?_) ?_ ?_
            rotate_left
            · show Act.put _ (some 32) _ = _
              simp only [Act.put, List.setIfInBounds_toArray, List.set_cons_zero, List.set_cons_succ, i64_w, i32_w]
              rfl
            refine one_ (i := 7) (N := some 8) #[true, true, true, true, true, true, true, true, false] rfl rfl (one_of HT_.out (by kernel_rfl)) (by decide) (fun K hK => ?_)
            refine value_ (v := .pointer (some ⟨u15.heap.size, 0, none⟩)) (w1 := u15.alloc (.cells #[.int .i64 0, .int .i64 0, .int .i64 0, .int .i64 0, .slice none 0 0, .slice none 0 0] 44)) (by rfl) rfl (by go_simp; first | done | rfl) ?_
            obtain ⟨u26, hnw⟩ : ∃ x, x = u15.alloc (.cells #[.int .i64 0, .int .i64 0, .int .i64 0, .int .i64 0, .slice none 0 0, .slice none 0 0] 44) := ⟨_, rfl⟩
            rw [← hnw]
            have hB : Below u15.heap.size u15 u26 := by rw [hnw]; exact (Below.refl _ u15).alloc (Nat.le_refl _) _
            have HZ_u26 := Lib.hid (show u26.heap[u15.heap.size]? = some (.cells #[.int .i64 0, .int .i64 0, .int .i64 0, .int .i64 0, .slice none 0 0, .slice none 0 0] 44 (0, 0)) by rw [hnw]; exact World.alloc_heap_new u15 _)
            have HZS_u26 := Lib.hid (show u26.heap.size = u15.heap.size + 1 by rw [hnw]; simp)
            clear hnw
            have HT_u2_u26 := Lib.hid (HT_u2_u15.out.trans (hB.mono HT_u2_u15.out.size))
            have HT_u3_u26 := Lib.hid (HT_u3_u15.out.trans (hB.mono HT_u3_u15.out.size))
            have HT_u14_u26 := Lib.hid (HT_u14_u15.out.trans (hB.mono HT_u14_u15.out.size))
            have HT_u15_u26 := Lib.hid hB
            have HB_u26 := Lib.hid (HB_u15.out.trans (hB.mono HB_u15.out.size))
            clear hB hHeld
            refine hK.out _ _ HB_u26.out (fun hHeld => ?_)
            clear hK K
            refine norm_ (a' := ?_) ?_ ?_
            rotate_left
            · show Act.put _ (some 8) _ = _
              simp only [Act.put, List.setIfInBounds_toArray, List.set_cons_zero, List.set_cons_succ, i64_w, i32_w]
              rfl
            have hzz := ((Below.refl u26.heap.size u26).block _ (Array.getElem?_eq_some_iff.1 HZ_u26.out).1).trans HZ_u26.out
            have hnn : NIn u26 (fun b => b < u26.heap.size ∧ b ≠ u15.heap.size) _ [.int .i64 u16, .int .i64 u17, .int .i64 u18, .int .i64 u19, .slice u20 u22 u23, .slice u21 u24 u25] := (HN_u15.out.move (fun b hb => HT_u15_u26.out.block b hb.2)).mono (fun b hb => ⟨Nat.lt_of_lt_of_le hb.2 HT_u15_u26.out.size, by have h1 := HZS_u26.out; omega⟩)
            have hput := HeldT.put hnn hzz rfl
            have hbp : Below w7.heap.size w7 (put6 u26 u15.heap.size 0 (.int .i64 u16) (.int .i64 u17) (.int .i64 u18) (.int .i64 u19) (.slice u20 u22 u23) (.slice u21 u24 u25)) := put6_below HB_u26.out HB_u15.out.size _ _ _ _ _ _ _
            have HPUT := Lib.hid hput
            have HBP := Lib.hid hbp
            have d0 := cell_heap (i := 0) hzz rfl
            have d1 := cell_heap (i := 1) hzz rfl
            have d2 := cell_heap (i := 2) hzz rfl
            have d3 := cell_heap (i := 3) hzz rfl
            have d4 := cell_heap (i := 4) hzz rfl
            have d5 := cell_heap (i := 5) hzz rfl
            have q0 : ∀ o, u26.frozen? ⟨u15.heap.size, o, none⟩ = false := fun o => by simp [World.frozen?, hzz]
            clear hzz hnn hput hbp hHeld
            refine last_ (i := 8) (N := none) #[true, true, true, true, true, true, true, true, true] rfl rfl (one_of HT_.out (by kernel_rfl)) (by decide) (fun K hK => ?_)
            refine skip_ (w1 := ?_) (by rfl) rfl ?_ ?_
            rotate_left
            · go_simp
              rfl
            refine hK.out _ _ ?_
            clear hK K d0 d1 d2 d3 d4 d5 q0
            refine done_ (done_of HT_.out (by kernel_rfl)) ?_
            clear HT_
            go_wp2_with fail
            go_meet
            exact ⟨u15.heap.size, rfl, ⟨HBP.out, HPUT.out⟩⟩
          · skip
            refine value_ (v := .pointer (some ⟨u14.heap.size, 0, none⟩)) (w1 := u14.alloc (.cells #[.int .i64 0, .int .i64 0, .int .i64 0, .int .i64 0, .slice none 0 0, .slice none 0 0] 44)) (by rfl) rfl (by go_simp; first | done | rfl) ?_
            obtain ⟨u27, hnw⟩ : ∃ x, x = u14.alloc (.cells #[.int .i64 0, .int .i64 0, .int .i64 0, .int .i64 0, .slice none 0 0, .slice none 0 0] 44) := ⟨_, rfl⟩
            rw [← hnw]
            have hB : Below u14.heap.size u14 u27 := by rw [hnw]; exact (Below.refl _ u14).alloc (Nat.le_refl _) _
            have HZ_u27 := Lib.hid (show u27.heap[u14.heap.size]? = some (.cells #[.int .i64 0, .int .i64 0, .int .i64 0, .int .i64 0, .slice none 0 0, .slice none 0 0] 44 (0, 0)) by rw [hnw]; exact World.alloc_heap_new u14 _)
            have HZS_u27 := Lib.hid (show u27.heap.size = u14.heap.size + 1 by rw [hnw]; simp)
            clear hnw
            have HT_u2_u27 := Lib.hid (HT_u2_u14.out.trans (hB.mono HT_u2_u14.out.size))
            have HT_u3_u27 := Lib.hid (HT_u3_u14.out.trans (hB.mono HT_u3_u14.out.size))
            have HT_u14_u27 := Lib.hid hB
            have HB_u27 := Lib.hid (HB_u14.out.trans (hB.mono HB_u14.out.size))
            clear hB hHeld
            refine hK.out _ _ HB_u27.out (fun hHeld => ?_)
            clear hK K
            refine norm_ (a' := ?_) ?_ ?_
            rotate_left
            · show Act.put _ (some 8) _ = _
              simp only [Act.put, List.setIfInBounds_toArray, List.set_cons_zero, List.set_cons_succ, i64_w, i32_w]
              rfl
            refine one_ (i := 6) (N := some 32) #[true, true, true, true, true, true, true, true, false] rfl rfl (one_of HT_.out (by kernel_rfl)) (by decide) (fun K hK => ?_)
            refine goes_ Try.func55 (by kernel_rfl) rfl #[.slice (some ⟨u3.heap.size, 0, none⟩) 2 2] (by rfl) rfl rfl (by (try simp only [List.map_toArray, List.map_cons, List.map_nil]); first | done | rfl) ?_
            have hrb := (HT_u14_u27.out.block _ (Array.getElem?_eq_some_iff.1 HR_u14.out).1).trans HR_u14.out
            refine (cat_of2 u27 _ (catT [.mk k0 m0 l0 hh0 r0 s0, .mk k1 m1 l1 hh1 r1 s1]) (.mk k2 m2 l2 hh2 r2 s2) [.int .i64 u4, .int .i64 u5, .int .i64 u6, .int .i64 u7, .slice u8 u10 u11, .slice u9 u12 u13] [.int .i64 k2, .int .i64 m2, .int .i64 l2, .int .i64 hh2, .slice ar2 r2.length cr2, .slice ak2 s2.length ck2] hrb ((HN_u3.out.move (fun b hb => HT_u3_u27.out.block b hb.2)).mono (fun b hb => Nat.lt_of_lt_of_le hb.2 HT_u3_u27.out.size)) ((G2.out.move (fun b hb => (HB_u27.out.block b (Nat.lt_of_lt_of_le hb HJ_w7.out.bel.size)).trans (HJ_w7.out.bel.block b hb))).mono (fun b hb => Nat.lt_of_lt_of_le hb (Nat.le_trans HJ_w7.out.bel.size HB_u27.out.size))) (by have hnd := HND.out; have := catT_nodes [.mk k0 m0 l0 hh0 r0 s0, .mk k1 m1 l1 hh1 r1 s1]; simp only [NT.nodesL] at this; omega)).mono ?_
            rintro e u28 ⟨u29, u30, u31, u32, u33, u34, u35, u36, u37, u38, rfl, hNn, hB⟩
            have HN_u28 := Lib.hid hNn
            clear hNn hrb
            refine ⟨_, rfl, ?_⟩
            have HT_u2_u28 := Lib.hid (HT_u2_u27.out.trans (hB.mono HT_u2_u27.out.size))
            have HT_u3_u28 := Lib.hid (HT_u3_u27.out.trans (hB.mono HT_u3_u27.out.size))
            have HT_u14_u28 := Lib.hid (HT_u14_u27.out.trans (hB.mono HT_u14_u27.out.size))
            have HT_u27_u28 := Lib.hid hB
            have HB_u28 := Lib.hid (HB_u27.out.trans (hB.mono HB_u27.out.size))
            clear hB hHeld
            refine hK.out _ _ HB_u28.out (fun hHeld => ?_)
            clear hK K
            refine norm_ (a' := ?_) ?_ ?_
            rotate_left
            · show Act.put _ (some 32) _ = _
              simp only [Act.put, List.setIfInBounds_toArray, List.set_cons_zero, List.set_cons_succ, i64_w, i32_w]
              rfl
            have hzz := (HT_u27_u28.out.block _ (Array.getElem?_eq_some_iff.1 HZ_u27.out).1).trans HZ_u27.out
            have hnn : NIn u28 (fun b => b < u28.heap.size ∧ b ≠ u14.heap.size) _ [.int .i64 u29, .int .i64 u30, .int .i64 u31, .int .i64 u32, .slice u33 u35 u36, .slice u34 u37 u38] := (HN_u28.out.move (fun b hb => (Below.refl u28.heap.size u28).block b hb.2)).mono (fun b hb => ⟨Nat.lt_of_lt_of_le hb.2 (Below.refl u28.heap.size u28).size, by have h1 := HZS_u27.out; omega⟩)
            have hput := HeldT.put hnn hzz rfl
            have hbp : Below w7.heap.size w7 (put6 u28 u14.heap.size 0 (.int .i64 u29) (.int .i64 u30) (.int .i64 u31) (.int .i64 u32) (.slice u33 u35 u36) (.slice u34 u37 u38)) := put6_below HB_u28.out HB_u14.out.size _ _ _ _ _ _ _
            have HPUT := Lib.hid hput
            have HBP := Lib.hid hbp
            have d0 := cell_heap (i := 0) hzz rfl
            have d1 := cell_heap (i := 1) hzz rfl
            have d2 := cell_heap (i := 2) hzz rfl
            have d3 := cell_heap (i := 3) hzz rfl
            have d4 := cell_heap (i := 4) hzz rfl
            have d5 := cell_heap (i := 5) hzz rfl
            have q0 : ∀ o, u28.frozen? ⟨u14.heap.size, o, none⟩ = false := fun o => by simp [World.frozen?, hzz]
            clear hzz hnn hput hbp hHeld
            refine last_ (i := 8) (N := none) #[true, true, true, true, true, true, true, true, true] rfl rfl (one_of HT_.out (by kernel_rfl)) (by decide) (fun K hK => ?_)
            refine skip_ (w1 := ?_) (by rfl) rfl ?_ ?_
            rotate_left
            · go_simp
              rfl
            refine hK.out _ _ ?_
            clear hK K d0 d1 d2 d3 d4 d5 q0
            refine done_ (done_of HT_.out (by kernel_rfl)) ?_
            clear HT_
            go_wp2_with fail
            go_meet
            exact ⟨u14.heap.size, rfl, ⟨HBP.out, HPUT.out⟩⟩
        · skip
          refine value_ (v := .pointer (some ⟨u3.heap.size, 0, none⟩)) (w1 := u3.alloc (.cells #[.int .i64 0, .int .i64 0, .int .i64 0, .int .i64 0, .slice none 0 0, .slice none 0 0] 44)) (by rfl) rfl (by go_simp; first | done | rfl) ?_
          obtain ⟨u39, hnw⟩ : ∃ x, x = u3.alloc (.cells #[.int .i64 0, .int .i64 0, .int .i64 0, .int .i64 0, .slice none 0 0, .slice none 0 0] 44) := ⟨_, rfl⟩
          rw [← hnw]
          have hB : Below u3.heap.size u3 u39 := by rw [hnw]; exact (Below.refl _ u3).alloc (Nat.le_refl _) _
          have HZ_u39 := Lib.hid (show u39.heap[u3.heap.size]? = some (.cells #[.int .i64 0, .int .i64 0, .int .i64 0, .int .i64 0, .slice none 0 0, .slice none 0 0] 44 (0, 0)) by rw [hnw]; exact World.alloc_heap_new u3 _)
          have HZS_u39 := Lib.hid (show u39.heap.size = u3.heap.size + 1 by rw [hnw]; simp)
          clear hnw
          have HT_u2_u39 := Lib.hid (HT_u2_u3.out.trans (hB.mono HT_u2_u3.out.size))
          have HT_u3_u39 := Lib.hid hB
          have HB_u39 := Lib.hid (HB_u3.out.trans (hB.mono HB_u3.out.size))
          clear hB hHeld
          refine hK.out _ _ HB_u39.out (fun hHeld => ?_)
          clear hK K
          refine norm_ (a' := ?_) ?_ ?_
          rotate_left
          · show Act.put _ (some 8) _ = _
            simp only [Act.put, List.setIfInBounds_toArray, List.set_cons_zero, List.set_cons_succ, i64_w, i32_w]
            rfl
          refine one_ (i := 5) (N := some 31) #[true, true, true, true, true, true, false, true, false] rfl rfl (one_of HT_.out (by kernel_rfl)) (by decide) (fun K hK => ?_)
          refine value_ (v := .slice (some ⟨u39.heap.size, 0, none⟩) 2 2) (w1 := u39.alloc (.cells #[.int .i64 u4, .int .i64 u5, .int .i64 u6, .int .i64 u7, .slice u8 u10 u11, .slice u9 u12 u13, .int .i64 k2, .int .i64 m2, .int .i64 l2, .int .i64 hh2, .slice ar2 r2.length cr2, .slice ak2 s2.length ck2] 44)) (by rfl) rfl (by go_simp; first | done | rfl) ?_
          obtain ⟨u40, hnw⟩ : ∃ x, x = u39.alloc (.cells #[.int .i64 u4, .int .i64 u5, .int .i64 u6, .int .i64 u7, .slice u8 u10 u11, .slice u9 u12 u13, .int .i64 k2, .int .i64 m2, .int .i64 l2, .int .i64 hh2, .slice ar2 r2.length cr2, .slice ak2 s2.length ck2] 44) := ⟨_, rfl⟩
          rw [← hnw]
          have hB : Below u39.heap.size u39 u40 := by rw [hnw]; exact (Below.refl _ u39).alloc (Nat.le_refl _) _
          have HR_u40 := Lib.hid (show u40.heap[u39.heap.size]? = some (.cells #[.int .i64 u4, .int .i64 u5, .int .i64 u6, .int .i64 u7, .slice u8 u10 u11, .slice u9 u12 u13, .int .i64 k2, .int .i64 m2, .int .i64 l2, .int .i64 hh2, .slice ar2 r2.length cr2, .slice ak2 s2.length ck2] 44 (0, 0)) by rw [hnw]; exact World.alloc_heap_new u39 _)
          clear hnw
          have HT_u2_u40 := Lib.hid (HT_u2_u39.out.trans (hB.mono HT_u2_u39.out.size))
          have HT_u3_u40 := Lib.hid (HT_u3_u39.out.trans (hB.mono HT_u3_u39.out.size))
          have HT_u39_u40 := Lib.hid hB
          have HB_u40 := Lib.hid (HB_u39.out.trans (hB.mono HB_u39.out.size))
          clear hB hHeld
          refine hK.out _ _ HB_u40.out (fun hHeld => ?_)
          clear hK K
          refine norm_ (a' := ?_) ?_ ?_
          rotate_left
          · show Act.put _ (some 31) _ = _
            simp only [Act.put, List.setIfInBounds_toArray, List.set_cons_zero, List.set_cons_succ, i64_w, i32_w]
            rfl
          refine one_ (i := 6) (N := some 32) #[true, true, true, true, true, true, true, true, false] rfl rfl (one_of HT_.out (by kernel_rfl)) (by decide) (fun K hK => ?_)
          refine goes_ Try.func55 (by kernel_rfl) rfl #[.slice (some ⟨u39.heap.size, 0, none⟩) 2 2] (by rfl) rfl rfl (by (try simp only [List.map_toArray, List.map_cons, List.map_nil]); first | done | rfl) ?_
          have hrb := ((Below.refl u40.heap.size u40).block _ (Array.getElem?_eq_some_iff.1 HR_u40.out).1).trans HR_u40.out
          refine (cat_of2 u40 _ (catT [.mk k0 m0 l0 hh0 r0 s0, .mk k1 m1 l1 hh1 r1 s1]) (.mk k2 m2 l2 hh2 r2 s2) [.int .i64 u4, .int .i64 u5, .int .i64 u6, .int .i64 u7, .slice u8 u10 u11, .slice u9 u12 u13] [.int .i64 k2, .int .i64 m2, .int .i64 l2, .int .i64 hh2, .slice ar2 r2.length cr2, .slice ak2 s2.length ck2] hrb ((HN_u3.out.move (fun b hb => HT_u3_u40.out.block b hb.2)).mono (fun b hb => Nat.lt_of_lt_of_le hb.2 HT_u3_u40.out.size)) ((G2.out.move (fun b hb => (HB_u40.out.block b (Nat.lt_of_lt_of_le hb HJ_w7.out.bel.size)).trans (HJ_w7.out.bel.block b hb))).mono (fun b hb => Nat.lt_of_lt_of_le hb (Nat.le_trans HJ_w7.out.bel.size HB_u40.out.size))) (by have hnd := HND.out; have := catT_nodes [.mk k0 m0 l0 hh0 r0 s0, .mk k1 m1 l1 hh1 r1 s1]; simp only [NT.nodesL] at this; omega)).mono ?_
          rintro e u41 ⟨u42, u43, u44, u45, u46, u47, u48, u49, u50, u51, rfl, hNn, hB⟩
          have HN_u41 := Lib.hid hNn
          clear hNn hrb
          refine ⟨_, rfl, ?_⟩
          have HT_u2_u41 := Lib.hid (HT_u2_u40.out.trans (hB.mono HT_u2_u40.out.size))
          have HT_u3_u41 := Lib.hid (HT_u3_u40.out.trans (hB.mono HT_u3_u40.out.size))
          have HT_u39_u41 := Lib.hid (HT_u39_u40.out.trans (hB.mono HT_u39_u40.out.size))
          have HT_u40_u41 := Lib.hid hB
          have HB_u41 := Lib.hid (HB_u40.out.trans (hB.mono HB_u40.out.size))
          clear hB hHeld
          refine hK.out _ _ HB_u41.out (fun hHeld => ?_)
          clear hK K
          refine norm_ (a' := ?_) ?_ ?_
          rotate_left
          · show Act.put _ (some 32) _ = _
            simp only [Act.put, List.setIfInBounds_toArray, List.set_cons_zero, List.set_cons_succ, i64_w, i32_w]
            rfl
          have hzz := (HT_u39_u41.out.block _ (Array.getElem?_eq_some_iff.1 HZ_u39.out).1).trans HZ_u39.out
          have hnn : NIn u41 (fun b => b < u41.heap.size ∧ b ≠ u3.heap.size) _ [.int .i64 u42, .int .i64 u43, .int .i64 u44, .int .i64 u45, .slice u46 u48 u49, .slice u47 u50 u51] := (HN_u41.out.move (fun b hb => (Below.refl u41.heap.size u41).block b hb.2)).mono (fun b hb => ⟨Nat.lt_of_lt_of_le hb.2 (Below.refl u41.heap.size u41).size, by have h1 := HZS_u39.out; have h2 := HT_u39_u40.out.size; omega⟩)
          have hput := HeldT.put hnn hzz rfl
          have hbp : Below w7.heap.size w7 (put6 u41 u3.heap.size 0 (.int .i64 u42) (.int .i64 u43) (.int .i64 u44) (.int .i64 u45) (.slice u46 u48 u49) (.slice u47 u50 u51)) := put6_below HB_u41.out HB_u3.out.size _ _ _ _ _ _ _
          have HPUT := Lib.hid hput
          have HBP := Lib.hid hbp
          have d0 := cell_heap (i := 0) hzz rfl
          have d1 := cell_heap (i := 1) hzz rfl
          have d2 := cell_heap (i := 2) hzz rfl
          have d3 := cell_heap (i := 3) hzz rfl
          have d4 := cell_heap (i := 4) hzz rfl
          have d5 := cell_heap (i := 5) hzz rfl
          have q0 : ∀ o, u41.frozen? ⟨u3.heap.size, o, none⟩ = false := fun o => by simp [World.frozen?, hzz]
          clear hzz hnn hput hbp hHeld
          refine last_ (i := 8) (N := none) #[true, true, true, true, true, true, true, true, true] rfl rfl (one_of HT_.out (by kernel_rfl)) (by decide) (fun K hK => ?_)
          refine skip_ (w1 := ?_) (by rfl) rfl ?_ ?_
          rotate_left
          · go_simp
            rfl
          refine hK.out _ _ ?_
          clear hK K d0 d1 d2 d3 d4 d5 q0
          refine done_ (done_of HT_.out (by kernel_rfl)) ?_
          clear HT_
          go_wp2_with fail
          go_meet
          exact ⟨u3.heap.size, rfl, ⟨HBP.out, HPUT.out⟩⟩
      · skip
        refine value_ (v := .pointer (some ⟨u2.heap.size, 0, none⟩)) (w1 := u2.alloc (.cells #[.int .i64 0, .int .i64 0, .int .i64 0, .int .i64 0, .slice none 0 0, .slice none 0 0] 44)) (by rfl) rfl (by go_simp; first | done | rfl) ?_
        obtain ⟨u52, hnw⟩ : ∃ x, x = u2.alloc (.cells #[.int .i64 0, .int .i64 0, .int .i64 0, .int .i64 0, .slice none 0 0, .slice none 0 0] 44) := ⟨_, rfl⟩
        rw [← hnw]
        have hB : Below u2.heap.size u2 u52 := by rw [hnw]; exact (Below.refl _ u2).alloc (Nat.le_refl _) _
        have HZ_u52 := Lib.hid (show u52.heap[u2.heap.size]? = some (.cells #[.int .i64 0, .int .i64 0, .int .i64 0, .int .i64 0, .slice none 0 0, .slice none 0 0] 44 (0, 0)) by rw [hnw]; exact World.alloc_heap_new u2 _)
        have HZS_u52 := Lib.hid (show u52.heap.size = u2.heap.size + 1 by rw [hnw]; simp)
        clear hnw
        have HT_u2_u52 := Lib.hid hB
        have HB_u52 := Lib.hid (HB_u2.out.trans (hB.mono HB_u2.out.size))
        clear hB hHeld
        refine hK.out _ _ HB_u52.out (fun hHeld => ?_)
        clear hK K
        refine norm_ (a' := ?_) ?_ ?_
        rotate_left
        · show Act.put _ (some 8) _ = _
          simp only [Act.put, List.setIfInBounds_toArray, List.set_cons_zero, List.set_cons_succ, i64_w, i32_w]
          rfl
        refine one_ (i := 3) (N := some 29) #[true, true, true, true, true, false, false, true, false] rfl rfl (one_of HT_.out (by kernel_rfl)) (by decide) (fun K hK => ?_)
        refine goes_ Try.func55 (by kernel_rfl) rfl #[.slice (some ⟨u1.heap.size, 0, none⟩) 2 2] (by rfl) rfl rfl (by (try simp only [List.map_toArray, List.map_cons, List.map_nil]); first | done | rfl) ?_
        have hrb := (HT_u2_u52.out.block _ (Array.getElem?_eq_some_iff.1 HR_u2.out).1).trans HR_u2.out
        refine (cat_of2 u52 _ (.mk k0 m0 l0 hh0 r0 s0) (.mk k1 m1 l1 hh1 r1 s1) [.int .i64 k0, .int .i64 m0, .int .i64 l0, .int .i64 hh0, .slice ar0 r0.length cr0, .slice ak0 s0.length ck0] [.int .i64 k1, .int .i64 m1, .int .i64 l1, .int .i64 hh1, .slice ar1 r1.length cr1, .slice ak1 s1.length ck1] hrb ((G0.out.move (fun b hb => (HB_u52.out.block b (Nat.lt_of_lt_of_le hb HJ_w7.out.bel.size)).trans (HJ_w7.out.bel.block b hb))).mono (fun b hb => Nat.lt_of_lt_of_le hb (Nat.le_trans HJ_w7.out.bel.size HB_u52.out.size))) ((G1.out.move (fun b hb => (HB_u52.out.block b (Nat.lt_of_lt_of_le hb HJ_w7.out.bel.size)).trans (HJ_w7.out.bel.block b hb))).mono (fun b hb => Nat.lt_of_lt_of_le hb (Nat.le_trans HJ_w7.out.bel.size HB_u52.out.size))) (by have hnd := HND.out; omega)).mono ?_
        rintro e u53 ⟨u54, u55, u56, u57, u58, u59, u60, u61, u62, u63, rfl, hNn, hB⟩
        have HN_u53 := Lib.hid hNn
        clear hNn hrb
        refine ⟨_, rfl, ?_⟩
        have HT_u2_u53 := Lib.hid (HT_u2_u52.out.trans (hB.mono HT_u2_u52.out.size))
        have HT_u52_u53 := Lib.hid hB
        have HB_u53 := Lib.hid (HB_u52.out.trans (hB.mono HB_u52.out.size))
        clear hB hHeld
        refine hK.out _ _ HB_u53.out (fun hHeld => ?_)
        clear hK K
        refine norm_ (a' := ?_) ?_ ?_
        rotate_left
        · show Act.put _ (some 29) _ = _
          simp only [Act.put, List.setIfInBounds_toArray, List.set_cons_zero, List.set_cons_succ, i64_w, i32_w]
          rfl
        refine one_ (i := 5) (N := some 31) #[true, true, true, true, true, true, false, true, false] rfl rfl (one_of HT_.out (by kernel_rfl)) (by decide) (fun K hK => ?_)
        refine value_ (v := .slice (some ⟨u53.heap.size, 0, none⟩) 2 2) (w1 := u53.alloc (.cells #[.int .i64 u54, .int .i64 u55, .int .i64 u56, .int .i64 u57, .slice u58 u60 u61, .slice u59 u62 u63, .int .i64 k2, .int .i64 m2, .int .i64 l2, .int .i64 hh2, .slice ar2 r2.length cr2, .slice ak2 s2.length ck2] 44)) (by rfl) rfl (by go_simp; first | done | rfl) ?_
        obtain ⟨u64, hnw⟩ : ∃ x, x = u53.alloc (.cells #[.int .i64 u54, .int .i64 u55, .int .i64 u56, .int .i64 u57, .slice u58 u60 u61, .slice u59 u62 u63, .int .i64 k2, .int .i64 m2, .int .i64 l2, .int .i64 hh2, .slice ar2 r2.length cr2, .slice ak2 s2.length ck2] 44) := ⟨_, rfl⟩
        rw [← hnw]
        have hB : Below u53.heap.size u53 u64 := by rw [hnw]; exact (Below.refl _ u53).alloc (Nat.le_refl _) _
        have HR_u64 := Lib.hid (show u64.heap[u53.heap.size]? = some (.cells #[.int .i64 u54, .int .i64 u55, .int .i64 u56, .int .i64 u57, .slice u58 u60 u61, .slice u59 u62 u63, .int .i64 k2, .int .i64 m2, .int .i64 l2, .int .i64 hh2, .slice ar2 r2.length cr2, .slice ak2 s2.length ck2] 44 (0, 0)) by rw [hnw]; exact World.alloc_heap_new u53 _)
        clear hnw
        have HT_u2_u64 := Lib.hid (HT_u2_u53.out.trans (hB.mono HT_u2_u53.out.size))
        have HT_u52_u64 := Lib.hid (HT_u52_u53.out.trans (hB.mono HT_u52_u53.out.size))
        have HT_u53_u64 := Lib.hid hB
        have HB_u64 := Lib.hid (HB_u53.out.trans (hB.mono HB_u53.out.size))
        clear hB hHeld
        refine hK.out _ _ HB_u64.out (fun hHeld => ?_)
        clear hK K
        refine norm_ (a' := ?_) ?_ ?_
        rotate_left
        · show Act.put _ (some 31) _ = _
          simp only [Act.put, List.setIfInBounds_toArray, List.set_cons_zero, List.set_cons_succ, i64_w, i32_w]
          rfl
        refine one_ (i := 6) (N := some 32) #[true, true, true, true, true, true, true, true, false] rfl rfl (one_of HT_.out (by kernel_rfl)) (by decide) (fun K hK => ?_)
        refine goes_ Try.func55 (by kernel_rfl) rfl #[.slice (some ⟨u53.heap.size, 0, none⟩) 2 2] (by rfl) rfl rfl (by (try simp only [List.map_toArray, List.map_cons, List.map_nil]); first | done | rfl) ?_
        have hrb := ((Below.refl u64.heap.size u64).block _ (Array.getElem?_eq_some_iff.1 HR_u64.out).1).trans HR_u64.out
        refine (cat_of2 u64 _ (catT [.mk k0 m0 l0 hh0 r0 s0, .mk k1 m1 l1 hh1 r1 s1]) (.mk k2 m2 l2 hh2 r2 s2) [.int .i64 u54, .int .i64 u55, .int .i64 u56, .int .i64 u57, .slice u58 u60 u61, .slice u59 u62 u63] [.int .i64 k2, .int .i64 m2, .int .i64 l2, .int .i64 hh2, .slice ar2 r2.length cr2, .slice ak2 s2.length ck2] hrb ((HN_u53.out.move (fun b hb => HT_u53_u64.out.block b hb.2)).mono (fun b hb => Nat.lt_of_lt_of_le hb.2 HT_u53_u64.out.size)) ((G2.out.move (fun b hb => (HB_u64.out.block b (Nat.lt_of_lt_of_le hb HJ_w7.out.bel.size)).trans (HJ_w7.out.bel.block b hb))).mono (fun b hb => Nat.lt_of_lt_of_le hb (Nat.le_trans HJ_w7.out.bel.size HB_u64.out.size))) (by have hnd := HND.out; have := catT_nodes [.mk k0 m0 l0 hh0 r0 s0, .mk k1 m1 l1 hh1 r1 s1]; simp only [NT.nodesL] at this; omega)).mono ?_
        rintro e u65 ⟨u66, u67, u68, u69, u70, u71, u72, u73, u74, u75, rfl, hNn, hB⟩
        have HN_u65 := Lib.hid hNn
        clear hNn hrb
        refine ⟨_, rfl, ?_⟩
        have HT_u2_u65 := Lib.hid (HT_u2_u64.out.trans (hB.mono HT_u2_u64.out.size))
        have HT_u52_u65 := Lib.hid (HT_u52_u64.out.trans (hB.mono HT_u52_u64.out.size))
        have HT_u53_u65 := Lib.hid (HT_u53_u64.out.trans (hB.mono HT_u53_u64.out.size))
        have HT_u64_u65 := Lib.hid hB
        have HB_u65 := Lib.hid (HB_u64.out.trans (hB.mono HB_u64.out.size))
        clear hB hHeld
        refine hK.out _ _ HB_u65.out (fun hHeld => ?_)
        clear hK K
        refine norm_ (a' := ?_) ?_ ?_
        rotate_left
        · show Act.put _ (some 32) _ = _
          simp only [Act.put, List.setIfInBounds_toArray, List.set_cons_zero, List.set_cons_succ, i64_w, i32_w]
          rfl
        have hzz := (HT_u52_u65.out.block _ (Array.getElem?_eq_some_iff.1 HZ_u52.out).1).trans HZ_u52.out
        have hnn : NIn u65 (fun b => b < u65.heap.size ∧ b ≠ u2.heap.size) _ [.int .i64 u66, .int .i64 u67, .int .i64 u68, .int .i64 u69, .slice u70 u72 u73, .slice u71 u74 u75] := (HN_u65.out.move (fun b hb => (Below.refl u65.heap.size u65).block b hb.2)).mono (fun b hb => ⟨Nat.lt_of_lt_of_le hb.2 (Below.refl u65.heap.size u65).size, by have h1 := HZS_u52.out; have h2 := HT_u52_u64.out.size; omega⟩)
        have hput := HeldT.put hnn hzz rfl
        have hbp : Below w7.heap.size w7 (put6 u65 u2.heap.size 0 (.int .i64 u66) (.int .i64 u67) (.int .i64 u68) (.int .i64 u69) (.slice u70 u72 u73) (.slice u71 u74 u75)) := put6_below HB_u65.out HB_u2.out.size _ _ _ _ _ _ _
        have HPUT := Lib.hid hput
        have HBP := Lib.hid hbp
        have d0 := cell_heap (i := 0) hzz rfl
        have d1 := cell_heap (i := 1) hzz rfl
        have d2 := cell_heap (i := 2) hzz rfl
        have d3 := cell_heap (i := 3) hzz rfl
        have d4 := cell_heap (i := 4) hzz rfl
        have d5 := cell_heap (i := 5) hzz rfl
        have q0 : ∀ o, u65.frozen? ⟨u2.heap.size, o, none⟩ = false := fun o => by simp [World.frozen?, hzz]
        clear hzz hnn hput hbp hHeld
        refine last_ (i := 8) (N := none) #[true, true, true, true, true, true, true, true, true] rfl rfl (one_of HT_.out (by kernel_rfl)) (by decide) (fun K hK => ?_)
        refine skip_ (w1 := ?_) (by rfl) rfl ?_ ?_
        rotate_left
        · go_simp
          rfl
        refine hK.out _ _ ?_
        clear hK K d0 d1 d2 d3 d4 d5 q0
        refine done_ (done_of HT_.out (by kernel_rfl)) ?_
        clear HT_
        go_wp2_with fail
        go_meet
        exact ⟨u2.heap.size, rfl, ⟨HBP.out, HPUT.out⟩⟩
    · skip
      refine value_ (v := .pointer (some ⟨u1.heap.size, 0, none⟩)) (w1 := u1.alloc (.cells #[.int .i64 0, .int .i64 0, .int .i64 0, .int .i64 0, .slice none 0 0, .slice none 0 0] 44)) (by rfl) rfl (by go_simp; first | done | rfl) ?_
      obtain ⟨u76, hnw⟩ : ∃ x, x = u1.alloc (.cells #[.int .i64 0, .int .i64 0, .int .i64 0, .int .i64 0, .slice none 0 0, .slice none 0 0] 44) := ⟨_, rfl⟩
      rw [← hnw]
      have hB : Below u1.heap.size u1 u76 := by rw [hnw]; exact (Below.refl _ u1).alloc (Nat.le_refl _) _
      have HZ_u76 := Lib.hid (show u76.heap[u1.heap.size]? = some (.cells #[.int .i64 0, .int .i64 0, .int .i64 0, .int .i64 0, .slice none 0 0, .slice none 0 0] 44 (0, 0)) by rw [hnw]; exact World.alloc_heap_new u1 _)
      have HZS_u76 := Lib.hid (show u76.heap.size = u1.heap.size + 1 by rw [hnw]; simp)
      clear hnw
      have HB_u76 := Lib.hid (HB0w7.out.trans (hB.mono HB0w7.out.size))
      clear hB hHeld
      refine hK.out _ _ HB_u76.out (fun hHeld => ?_)
      clear hK K
      refine norm_ (a' := ?_) ?_ ?_
      rotate_left
      · show Act.put _ (some 8) _ = _
        simp only [Act.put, List.setIfInBounds_toArray, List.set_cons_zero, List.set_cons_succ, i64_w, i32_w]
        rfl
      refine one_ (i := 2) (N := some 28) #[true, true, true, false, true, false, false, true, false] rfl rfl (one_of HT_.out (by kernel_rfl)) (by decide) (fun K hK => ?_)
      refine value_ (v := .slice (some ⟨u76.heap.size, 0, none⟩) 2 2) (w1 := u76.alloc (.cells #[.int .i64 k0, .int .i64 m0, .int .i64 l0, .int .i64 hh0, .slice ar0 r0.length cr0, .slice ak0 s0.length ck0, .int .i64 k1, .int .i64 m1, .int .i64 l1, .int .i64 hh1, .slice ar1 r1.length cr1, .slice ak1 s1.length ck1] 44)) (by rfl) rfl (by go_simp; first | done | rfl) ?_
      obtain ⟨u77, hnw⟩ : ∃ x, x = u76.alloc (.cells #[.int .i64 k0, .int .i64 m0, .int .i64 l0, .int .i64 hh0, .slice ar0 r0.length cr0, .slice ak0 s0.length ck0, .int .i64 k1, .int .i64 m1, .int .i64 l1, .int .i64 hh1, .slice ar1 r1.length cr1, .slice ak1 s1.length ck1] 44) := ⟨_, rfl⟩
      rw [← hnw]
      have hB : Below u76.heap.size u76 u77 := by rw [hnw]; exact (Below.refl _ u76).alloc (Nat.le_refl _) _
      have HR_u77 := Lib.hid (show u77.heap[u76.heap.size]? = some (.cells #[.int .i64 k0, .int .i64 m0, .int .i64 l0, .int .i64 hh0, .slice ar0 r0.length cr0, .slice ak0 s0.length ck0, .int .i64 k1, .int .i64 m1, .int .i64 l1, .int .i64 hh1, .slice ar1 r1.length cr1, .slice ak1 s1.length ck1] 44 (0, 0)) by rw [hnw]; exact World.alloc_heap_new u76 _)
      clear hnw
      have HT_u76_u77 := Lib.hid hB
      have HB_u77 := Lib.hid (HB_u76.out.trans (hB.mono HB_u76.out.size))
      clear hB hHeld
      refine hK.out _ _ HB_u77.out (fun hHeld => ?_)
      clear hK K
      refine norm_ (a' := ?_) ?_ ?_
      rotate_left
      · show Act.put _ (some 28) _ = _
        simp only [Act.put, List.setIfInBounds_toArray, List.set_cons_zero, List.set_cons_succ, i64_w, i32_w]
        rfl
      refine one_ (i := 3) (N := some 29) #[true, true, true, true, true, false, false, true, false] rfl rfl (one_of HT_.out (by kernel_rfl)) (by decide) (fun K hK => ?_)
      refine goes_ Try.func55 (by kernel_rfl) rfl #[.slice (some ⟨u76.heap.size, 0, none⟩) 2 2] (by rfl) rfl rfl (by (try simp only [List.map_toArray, List.map_cons, List.map_nil]); first | done | rfl) ?_
      have hrb := ((Below.refl u77.heap.size u77).block _ (Array.getElem?_eq_some_iff.1 HR_u77.out).1).trans HR_u77.out
      refine (cat_of2 u77 _ (.mk k0 m0 l0 hh0 r0 s0) (.mk k1 m1 l1 hh1 r1 s1) [.int .i64 k0, .int .i64 m0, .int .i64 l0, .int .i64 hh0, .slice ar0 r0.length cr0, .slice ak0 s0.length ck0] [.int .i64 k1, .int .i64 m1, .int .i64 l1, .int .i64 hh1, .slice ar1 r1.length cr1, .slice ak1 s1.length ck1] hrb ((G0.out.move (fun b hb => (HB_u77.out.block b (Nat.lt_of_lt_of_le hb HJ_w7.out.bel.size)).trans (HJ_w7.out.bel.block b hb))).mono (fun b hb => Nat.lt_of_lt_of_le hb (Nat.le_trans HJ_w7.out.bel.size HB_u77.out.size))) ((G1.out.move (fun b hb => (HB_u77.out.block b (Nat.lt_of_lt_of_le hb HJ_w7.out.bel.size)).trans (HJ_w7.out.bel.block b hb))).mono (fun b hb => Nat.lt_of_lt_of_le hb (Nat.le_trans HJ_w7.out.bel.size HB_u77.out.size))) (by have hnd := HND.out; omega)).mono ?_
      rintro e u78 ⟨u79, u80, u81, u82, u83, u84, u85, u86, u87, u88, rfl, hNn, hB⟩
      have HN_u78 := Lib.hid hNn
      clear hNn hrb
      refine ⟨_, rfl, ?_⟩
      have HT_u76_u78 := Lib.hid (HT_u76_u77.out.trans (hB.mono HT_u76_u77.out.size))
      have HT_u77_u78 := Lib.hid hB
      have HB_u78 := Lib.hid (HB_u77.out.trans (hB.mono HB_u77.out.size))
      clear hB hHeld
      refine hK.out _ _ HB_u78.out (fun hHeld => ?_)
      clear hK K
      refine norm_ (a' := ?_) ?_ ?_
      rotate_left
      · show Act.put _ (some 29) _ = _
        simp only [Act.put, List.setIfInBounds_toArray, List.set_cons_zero, List.set_cons_succ, i64_w, i32_w]
        rfl
      refine one_ (i := 5) (N := some 31) #[true, true, true, true, true, true, false, true, false] rfl rfl (one_of HT_.out (by kernel_rfl)) (by decide) (fun K hK => ?_)
      refine value_ (v := .slice (some ⟨u78.heap.size, 0, none⟩) 2 2) (w1 := u78.alloc (.cells #[.int .i64 u79, .int .i64 u80, .int .i64 u81, .int .i64 u82, .slice u83 u85 u86, .slice u84 u87 u88, .int .i64 k2, .int .i64 m2, .int .i64 l2, .int .i64 hh2, .slice ar2 r2.length cr2, .slice ak2 s2.length ck2] 44)) (by rfl) rfl (by go_simp; first | done | rfl) ?_
      obtain ⟨u89, hnw⟩ : ∃ x, x = u78.alloc (.cells #[.int .i64 u79, .int .i64 u80, .int .i64 u81, .int .i64 u82, .slice u83 u85 u86, .slice u84 u87 u88, .int .i64 k2, .int .i64 m2, .int .i64 l2, .int .i64 hh2, .slice ar2 r2.length cr2, .slice ak2 s2.length ck2] 44) := ⟨_, rfl⟩
      rw [← hnw]
      have hB : Below u78.heap.size u78 u89 := by rw [hnw]; exact (Below.refl _ u78).alloc (Nat.le_refl _) _
      have HR_u89 := Lib.hid (show u89.heap[u78.heap.size]? = some (.cells #[.int .i64 u79, .int .i64 u80, .int .i64 u81, .int .i64 u82, .slice u83 u85 u86, .slice u84 u87 u88, .int .i64 k2, .int .i64 m2, .int .i64 l2, .int .i64 hh2, .slice ar2 r2.length cr2, .slice ak2 s2.length ck2] 44 (0, 0)) by rw [hnw]; exact World.alloc_heap_new u78 _)
      clear hnw
      have HT_u76_u89 := Lib.hid (HT_u76_u78.out.trans (hB.mono HT_u76_u78.out.size))
      have HT_u77_u89 := Lib.hid (HT_u77_u78.out.trans (hB.mono HT_u77_u78.out.size))
      have HT_u78_u89 := Lib.hid hB
      have HB_u89 := Lib.hid (HB_u78.out.trans (hB.mono HB_u78.out.size))
      clear hB hHeld
      refine hK.out _ _ HB_u89.out (fun hHeld => ?_)
      clear hK K
      refine norm_ (a' := ?_) ?_ ?_
      rotate_left
      · show Act.put _ (some 31) _ = _
        simp only [Act.put, List.setIfInBounds_toArray, List.set_cons_zero, List.set_cons_succ, i64_w, i32_w]
        rfl
      refine one_ (i := 6) (N := some 32) #[true, true, true, true, true, true, true, true, false] rfl rfl (one_of HT_.out (by kernel_rfl)) (by decide) (fun K hK => ?_)
      refine goes_ Try.func55 (by kernel_rfl) rfl #[.slice (some ⟨u78.heap.size, 0, none⟩) 2 2] (by rfl) rfl rfl (by (try simp only [List.map_toArray, List.map_cons, List.map_nil]); first | done | rfl) ?_
      have hrb := ((Below.refl u89.heap.size u89).block _ (Array.getElem?_eq_some_iff.1 HR_u89.out).1).trans HR_u89.out
      refine (cat_of2 u89 _ (catT [.mk k0 m0 l0 hh0 r0 s0, .mk k1 m1 l1 hh1 r1 s1]) (.mk k2 m2 l2 hh2 r2 s2) [.int .i64 u79, .int .i64 u80, .int .i64 u81, .int .i64 u82, .slice u83 u85 u86, .slice u84 u87 u88] [.int .i64 k2, .int .i64 m2, .int .i64 l2, .int .i64 hh2, .slice ar2 r2.length cr2, .slice ak2 s2.length ck2] hrb ((HN_u78.out.move (fun b hb => HT_u78_u89.out.block b hb.2)).mono (fun b hb => Nat.lt_of_lt_of_le hb.2 HT_u78_u89.out.size)) ((G2.out.move (fun b hb => (HB_u89.out.block b (Nat.lt_of_lt_of_le hb HJ_w7.out.bel.size)).trans (HJ_w7.out.bel.block b hb))).mono (fun b hb => Nat.lt_of_lt_of_le hb (Nat.le_trans HJ_w7.out.bel.size HB_u89.out.size))) (by have hnd := HND.out; have := catT_nodes [.mk k0 m0 l0 hh0 r0 s0, .mk k1 m1 l1 hh1 r1 s1]; simp only [NT.nodesL] at this; omega)).mono ?_
      rintro e u90 ⟨u91, u92, u93, u94, u95, u96, u97, u98, u99, u100, rfl, hNn, hB⟩
      have HN_u90 := Lib.hid hNn
      clear hNn hrb
      refine ⟨_, rfl, ?_⟩
      have HT_u76_u90 := Lib.hid (HT_u76_u89.out.trans (hB.mono HT_u76_u89.out.size))
      have HT_u77_u90 := Lib.hid (HT_u77_u89.out.trans (hB.mono HT_u77_u89.out.size))
      have HT_u78_u90 := Lib.hid (HT_u78_u89.out.trans (hB.mono HT_u78_u89.out.size))
      have HT_u89_u90 := Lib.hid hB
      have HB_u90 := Lib.hid (HB_u89.out.trans (hB.mono HB_u89.out.size))
      clear hB hHeld
      refine hK.out _ _ HB_u90.out (fun hHeld => ?_)
      clear hK K
      refine norm_ (a' := ?_) ?_ ?_
      rotate_left
      · show Act.put _ (some 32) _ = _
        simp only [Act.put, List.setIfInBounds_toArray, List.set_cons_zero, List.set_cons_succ, i64_w, i32_w]
        rfl
      have hzz := (HT_u76_u90.out.block _ (Array.getElem?_eq_some_iff.1 HZ_u76.out).1).trans HZ_u76.out
      have hnn : NIn u90 (fun b => b < u90.heap.size ∧ b ≠ u1.heap.size) _ [.int .i64 u91, .int .i64 u92, .int .i64 u93, .int .i64 u94, .slice u95 u97 u98, .slice u96 u99 u100] := (HN_u90.out.move (fun b hb => (Below.refl u90.heap.size u90).block b hb.2)).mono (fun b hb => ⟨Nat.lt_of_lt_of_le hb.2 (Below.refl u90.heap.size u90).size, by have h1 := HZS_u76.out; have h2 := HT_u76_u89.out.size; omega⟩)
      have hput := HeldT.put hnn hzz rfl
      have hbp : Below w7.heap.size w7 (put6 u90 u1.heap.size 0 (.int .i64 u91) (.int .i64 u92) (.int .i64 u93) (.int .i64 u94) (.slice u95 u97 u98) (.slice u96 u99 u100)) := put6_below HB_u90.out HB0w7.out.size _ _ _ _ _ _ _
      have HPUT := Lib.hid hput
      have HBP := Lib.hid hbp
      have d0 := cell_heap (i := 0) hzz rfl
      have d1 := cell_heap (i := 1) hzz rfl
      have d2 := cell_heap (i := 2) hzz rfl
      have d3 := cell_heap (i := 3) hzz rfl
      have d4 := cell_heap (i := 4) hzz rfl
      have d5 := cell_heap (i := 5) hzz rfl
      have q0 : ∀ o, u90.frozen? ⟨u1.heap.size, o, none⟩ = false := fun o => by simp [World.frozen?, hzz]
      clear hzz hnn hput hbp hHeld
      refine last_ (i := 8) (N := none) #[true, true, true, true, true, true, true, true, true] rfl rfl (one_of HT_.out (by kernel_rfl)) (by decide) (fun K hK => ?_)
      refine skip_ (w1 := ?_) (by rfl) rfl ?_ ?_
      rotate_left
      · go_simp
        rfl
      refine hK.out _ _ ?_
      clear hK K d0 d1 d2 d3 d4 d5 q0
      refine done_ (done_of HT_.out (by kernel_rfl)) ?_
      clear HT_
      go_wp2_with fail
      go_meet
      exact ⟨u1.heap.size, rfl, ⟨HBP.out, HPUT.out⟩⟩
  case rest =>
    obtain ⟨B8, rfl, hx⟩ := hcut
    obtain ⟨x8, rfl⟩ : ∃ x : World, x = wc := ⟨_, rfl⟩
    have HJ_x8 := Lib.hid (HJ_w7.out.below hx.out.1)
    have HH8_x8 := Lib.hid hx.out.2
    clear hx HJ_w7 
    go_upto_region 5 with (fail)
    go_cut [9] (fun s9 wx => ∃ B : Nat, s9 = .pointer (some ⟨B, 0, none⟩) ∧ Aside0 (Below x8.heap.size x8 wx ∧ HeldT wx B (catT [.mk k0 m0 l0 hh0 r0 s0, catT [.mk k1 m1 l1 hh1 r1 s1, .mk k2 m2 l2 hh2 r2 s2]])))
    case first =>
      have HB0x8 := Lib.hid (show Below x8.heap.size x8 x8.drew from (Below.refl _ x8).drew)
      refine start_ (n := 9) (S := fun w' => Below x8.heap.size x8 w') (ds := [8]) #[false, false, false, false, false, false, false, false, false] (by kernel_rfl) rfl rfl HB0x8.out (fun hHeld => ?_)
      refine with_self (fun HT_ => ?_)
      generalize x8.drew = u101 at HB0x8 hHeld ⊢
      refine take_ (i := 0) (N := some 33) (v := ?_) (a' := ?_) #[true, false, false, false, false, false, false, false, false] rfl rfl (take_of HT_.out (by kernel_rfl)) (fun _ _ _ h => h) (Or.inl ⟨by rfl, ?_⟩) hHeld ?_ ?_
      rotate_left
      · intro w' hS
        have hz := (hS.block _ (by have := HJ_x8.out.sz; omega)).trans HJ_x8.out.n0
        have n0 := cell_heap (i := 0) hz rfl
        have n1 := cell_heap (i := 1) hz rfl
        have n2 := cell_heap (i := 2) hz rfl
        have n3 := cell_heap (i := 3) hz rfl
        have n4 := cell_heap (i := 4) hz rfl
        have n5 := cell_heap (i := 5) hz rfl
        clear hz
        clear hS
        go_simp
        with_reducible rfl
      rotate_left
      · simp only [Act.put, List.setIfInBounds_toArray, List.set_cons_zero, List.set_cons_succ, i64_w, i32_w]
        rfl
      refine take_ (i := 1) (N := some 34) (v := ?_) (a' := ?_) #[true, true, false, false, false, false, false, false, false] rfl rfl (take_of HT_.out (by kernel_rfl)) (fun _ _ _ h => h) (Or.inl ⟨by rfl, ?_⟩) hHeld ?_ ?_
      rotate_left
      · intro w' hS
        have hz := (hS.block _ (by have := HJ_x8.out.sz; omega)).trans HJ_x8.out.n1
        have n0 := cell_heap (i := 0) hz rfl
        have n1 := cell_heap (i := 1) hz rfl
        have n2 := cell_heap (i := 2) hz rfl
        have n3 := cell_heap (i := 3) hz rfl
        have n4 := cell_heap (i := 4) hz rfl
        have n5 := cell_heap (i := 5) hz rfl
        clear hz
        clear hS
        go_simp
        with_reducible rfl
      rotate_left
      · simp only [Act.put, List.setIfInBounds_toArray, List.set_cons_zero, List.set_cons_succ, i64_w, i32_w]
        rfl
      refine take_ (i := 2) (N := some 35) (v := ?_) (a' := ?_) #[true, true, true, false, false, false, false, false, false] rfl rfl (take_of HT_.out (by kernel_rfl)) (fun _ _ _ h => h) (Or.inl ⟨by rfl, ?_⟩) hHeld ?_ ?_
      rotate_left
      · intro w' hS
        have hz := (hS.block _ (by have := HJ_x8.out.sz; omega)).trans HJ_x8.out.n2
        have n0 := cell_heap (i := 0) hz rfl
        have n1 := cell_heap (i := 1) hz rfl
        have n2 := cell_heap (i := 2) hz rfl
        have n3 := cell_heap (i := 3) hz rfl
        have n4 := cell_heap (i := 4) hz rfl
        have n5 := cell_heap (i := 5) hz rfl
        clear hz
        clear hS
        go_simp
        with_reducible rfl
      rotate_left
      · simp only [Act.put, List.setIfInBounds_toArray, List.set_cons_zero, List.set_cons_succ, i64_w, i32_w]
        rfl
      refine two_ (i := 3) (j := 7) (Ni := some 36) (Nj := some 9) #[true, true, true, true, false, false, false, false, false] #[true, true, true, false, false, false, false, true, false] rfl rfl rfl rfl HT_.out (by kernel_rfl) (by decide) (by decide) (fun K hK => ?_) (fun K hK => ?_)
      · skip
        refine value_ (v := .slice (some ⟨u101.heap.size, 0, none⟩) 2 2) (w1 := u101.alloc (.cells #[.int .i64 k1, .int .i64 m1, .int .i64 l1, .int .i64 hh1, .slice ar1 r1.length cr1, .slice ak1 s1.length ck1, .int .i64 k2, .int .i64 m2, .int .i64 l2, .int .i64 hh2, .slice ar2 r2.length cr2, .slice ak2 s2.length ck2] 44)) (by rfl) rfl (by go_simp; first | done | rfl) ?_
        obtain ⟨u102, hnw⟩ : ∃ x, x = u101.alloc (.cells #[.int .i64 k1, .int .i64 m1, .int .i64 l1, .int .i64 hh1, .slice ar1 r1.length cr1, .slice ak1 s1.length ck1, .int .i64 k2, .int .i64 m2, .int .i64 l2, .int .i64 hh2, .slice ar2 r2.length cr2, .slice ak2 s2.length ck2] 44) := ⟨_, rfl⟩
        rw [← hnw]
        have hB : Below u101.heap.size u101 u102 := by rw [hnw]; exact (Below.refl _ u101).alloc (Nat.le_refl _) _
        have HR_u102 := Lib.hid (show u102.heap[u101.heap.size]? = some (.cells #[.int .i64 k1, .int .i64 m1, .int .i64 l1, .int .i64 hh1, .slice ar1 r1.length cr1, .slice ak1 s1.length ck1, .int .i64 k2, .int .i64 m2, .int .i64 l2, .int .i64 hh2, .slice ar2 r2.length cr2, .slice ak2 s2.length ck2] 44 (0, 0)) by rw [hnw]; exact World.alloc_heap_new u101 _)
        clear hnw
        have HB_u102 := Lib.hid (HB0x8.out.trans (hB.mono HB0x8.out.size))
        clear hB hHeld
        refine hK.out _ _ HB_u102.out (fun hHeld => ?_)
        clear hK K
        refine norm_ (a' := ?_) ?_ ?_
        rotate_left
        · show Act.put _ (some 36) _ = _
          simp only [Act.put, List.setIfInBounds_toArray, List.set_cons_zero, List.set_cons_succ, i64_w, i32_w]
          rfl
        refine two_ (i := 4) (j := 7) (Ni := some 37) (Nj := some 9) #[true, true, true, true, true, false, false, false, false] #[true, true, true, true, false, false, false, true, false] rfl rfl rfl rfl HT_.out (by kernel_rfl) (by decide) (by decide) (fun K hK => ?_) (fun K hK => ?_)
        · skip
          refine goes_ Try.func55 (by kernel_rfl) rfl #[.slice (some ⟨u101.heap.size, 0, none⟩) 2 2] (by rfl) rfl rfl (by (try simp only [List.map_toArray, List.map_cons, List.map_nil]); first | done | rfl) ?_
          have hrb := ((Below.refl u102.heap.size u102).block _ (Array.getElem?_eq_some_iff.1 HR_u102.out).1).trans HR_u102.out
          refine (cat_of2 u102 _ (.mk k1 m1 l1 hh1 r1 s1) (.mk k2 m2 l2 hh2 r2 s2) [.int .i64 k1, .int .i64 m1, .int .i64 l1, .int .i64 hh1, .slice ar1 r1.length cr1, .slice ak1 s1.length ck1] [.int .i64 k2, .int .i64 m2, .int .i64 l2, .int .i64 hh2, .slice ar2 r2.length cr2, .slice ak2 s2.length ck2] hrb ((G1.out.move (fun b hb => (HB_u102.out.block b (Nat.lt_of_lt_of_le hb HJ_x8.out.bel.size)).trans (HJ_x8.out.bel.block b hb))).mono (fun b hb => Nat.lt_of_lt_of_le hb (Nat.le_trans HJ_x8.out.bel.size HB_u102.out.size))) ((G2.out.move (fun b hb => (HB_u102.out.block b (Nat.lt_of_lt_of_le hb HJ_x8.out.bel.size)).trans (HJ_x8.out.bel.block b hb))).mono (fun b hb => Nat.lt_of_lt_of_le hb (Nat.le_trans HJ_x8.out.bel.size HB_u102.out.size))) (by have hnd := HND.out; omega)).mono ?_
          rintro e u103 ⟨u104, u105, u106, u107, u108, u109, u110, u111, u112, u113, rfl, hNn, hB⟩
          have HN_u103 := Lib.hid hNn
          clear hNn hrb
          refine ⟨_, rfl, ?_⟩
          have HT_u102_u103 := Lib.hid hB
          have HB_u103 := Lib.hid (HB_u102.out.trans (hB.mono HB_u102.out.size))
          clear hB hHeld
          refine hK.out _ _ HB_u103.out (fun hHeld => ?_)
          clear hK K
          refine norm_ (a' := ?_) ?_ ?_
          rotate_left
          · show Act.put _ (some 37) _ = _
            simp only [Act.put, List.setIfInBounds_toArray, List.set_cons_zero, List.set_cons_succ, i64_w, i32_w]
            rfl
          refine two_ (i := 5) (j := 7) (Ni := some 38) (Nj := some 9) #[true, true, true, true, true, true, false, false, false] #[true, true, true, true, true, false, false, true, false] rfl rfl rfl rfl HT_.out (by kernel_rfl) (by decide) (by decide) (fun K hK => ?_) (fun K hK => ?_)
          · skip
            refine value_ (v := .slice (some ⟨u103.heap.size, 0, none⟩) 2 2) (w1 := u103.alloc (.cells #[.int .i64 k0, .int .i64 m0, .int .i64 l0, .int .i64 hh0, .slice ar0 r0.length cr0, .slice ak0 s0.length ck0, .int .i64 u104, .int .i64 u105, .int .i64 u106, .int .i64 u107, .slice u108 u110 u111, .slice u109 u112 u113] 44)) (by rfl) rfl (by go_simp; first | done | rfl) ?_
            obtain ⟨u114, hnw⟩ : ∃ x, x = u103.alloc (.cells #[.int .i64 k0, .int .i64 m0, .int .i64 l0, .int .i64 hh0, .slice ar0 r0.length cr0, .slice ak0 s0.length ck0, .int .i64 u104, .int .i64 u105, .int .i64 u106, .int .i64 u107, .slice u108 u110 u111, .slice u109 u112 u113] 44) := ⟨_, rfl⟩
            rw [← hnw]
            have hB : Below u103.heap.size u103 u114 := by rw [hnw]; exact (Below.refl _ u103).alloc (Nat.le_refl _) _
            have HR_u114 := Lib.hid (show u114.heap[u103.heap.size]? = some (.cells #[.int .i64 k0, .int .i64 m0, .int .i64 l0, .int .i64 hh0, .slice ar0 r0.length cr0, .slice ak0 s0.length ck0, .int .i64 u104, .int .i64 u105, .int .i64 u106, .int .i64 u107, .slice u108 u110 u111, .slice u109 u112 u113] 44 (0, 0)) by rw [hnw]; exact World.alloc_heap_new u103 _)
            clear hnw
            have HT_u102_u114 := Lib.hid (HT_u102_u103.out.trans (hB.mono HT_u102_u103.out.size))
            have HT_u103_u114 := Lib.hid hB
            have HB_u114 := Lib.hid (HB_u103.out.trans (hB.mono HB_u103.out.size))
            clear hB hHeld
            refine hK.out _ _ HB_u114.out (fun hHeld => ?_)
            clear hK K
            refine norm_ (a' := ?_) ?_ ?_
            rotate_left
            · show Act.put _ (some 38) _ = _
              simp only [Act.put, List.setIfInBounds_toArray, List.set_cons_zero, List.set_cons_succ, i64_w, i32_w]
              rfl
            refine two_ (i := 6) (j := 7) (Ni := some 39) (Nj := some 9) #[true, true, true, true, true, true, true, false, false] #[true, true, true, true, true, true, false, true, false] rfl rfl rfl rfl HT_.out (by kernel_rfl) (by decide) (by decide) (fun K hK => ?_) (fun K hK => ?_)
            · skip
              refine goes_ Try.func55 (by kernel_rfl) rfl #[.slice (some ⟨u103.heap.size, 0, none⟩) 2 2] (by rfl) rfl rfl (by (try simp only [List.map_toArray, List.map_cons, List.map_nil]); first | done | rfl) ?_
              have hrb := ((Below.refl u114.heap.size u114).block _ (Array.getElem?_eq_some_iff.1 HR_u114.out).1).trans HR_u114.out
              refine (cat_of2 u114 _ (.mk k0 m0 l0 hh0 r0 s0) (catT [.mk k1 m1 l1 hh1 r1 s1, .mk k2 m2 l2 hh2 r2 s2]) [.int .i64 k0, .int .i64 m0, .int .i64 l0, .int .i64 hh0, .slice ar0 r0.length cr0, .slice ak0 s0.length ck0] [.int .i64 u104, .int .i64 u105, .int .i64 u106, .int .i64 u107, .slice u108 u110 u111, .slice u109 u112 u113] hrb ((G0.out.move (fun b hb => (HB_u114.out.block b (Nat.lt_of_lt_of_le hb HJ_x8.out.bel.size)).trans (HJ_x8.out.bel.block b hb))).mono (fun b hb => Nat.lt_of_lt_of_le hb (Nat.le_trans HJ_x8.out.bel.size HB_u114.out.size))) ((HN_u103.out.move (fun b hb => HT_u103_u114.out.block b hb.2)).mono (fun b hb => Nat.lt_of_lt_of_le hb.2 HT_u103_u114.out.size)) (by have hnd := HND.out; have := catT_nodes [.mk k1 m1 l1 hh1 r1 s1, .mk k2 m2 l2 hh2 r2 s2]; simp only [NT.nodesL] at this; omega)).mono ?_
              rintro e u115 ⟨u116, u117, u118, u119, u120, u121, u122, u123, u124, u125, rfl, hNn, hB⟩
              have HN_u115 := Lib.hid hNn
              clear hNn hrb
              refine ⟨_, rfl, ?_⟩
              have HT_u102_u115 := Lib.hid (HT_u102_u114.out.trans (hB.mono HT_u102_u114.out.size))
              have HT_u103_u115 := Lib.hid (HT_u103_u114.out.trans (hB.mono HT_u103_u114.out.size))
              have HT_u114_u115 := Lib.hid hB
              have HB_u115 := Lib.hid (HB_u114.out.trans (hB.mono HB_u114.out.size))
              clear hB hHeld
              refine hK.out _ _ HB_u115.out (fun hHeld => ?_)
              clear hK K
              refine norm_ (a' := ?_) ?_ ?_
              rotate_left
              · show Act.put _ (some 39) _ = _
                simp only [Act.put, List.setIfInBounds_toArray, List.set_cons_zero, List.set_cons_succ, i64_w, i32_w]
                rfl
              refine one_ (i := 7) (N := some 9) #[true, true, true, true, true, true, true, true, false] rfl rfl (one_of HT_.out (by kernel_rfl)) (by decide) (fun K hK => ?_)
              refine value_ (v := .pointer (some ⟨u115.heap.size, 0, none⟩)) (w1 := u115.alloc (.cells #[.int .i64 0, .int .i64 0, .int .i64 0, .int .i64 0, .slice none 0 0, .slice none 0 0] 44)) (by rfl) rfl (by go_simp; first | done | rfl) ?_
              obtain ⟨u126, hnw⟩ : ∃ x, x = u115.alloc (.cells #[.int .i64 0, .int .i64 0, .int .i64 0, .int .i64 0, .slice none 0 0, .slice none 0 0] 44) := ⟨_, rfl⟩
              rw [← hnw]
              have hB : Below u115.heap.size u115 u126 := by rw [hnw]; exact (Below.refl _ u115).alloc (Nat.le_refl _) _
              have HZ_u126 := Lib.hid (show u126.heap[u115.heap.size]? = some (.cells #[.int .i64 0, .int .i64 0, .int .i64 0, .int .i64 0, .slice none 0 0, .slice none 0 0] 44 (0, 0)) by rw [hnw]; exact World.alloc_heap_new u115 _)
              have HZS_u126 := Lib.hid (show u126.heap.size = u115.heap.size + 1 by rw [hnw]; simp)
              clear hnw
              have HT_u102_u126 := Lib.hid (HT_u102_u115.out.trans (hB.mono HT_u102_u115.out.size))
              have HT_u103_u126 := Lib.hid (HT_u103_u115.out.trans (hB.mono HT_u103_u115.out.size))
              have HT_u114_u126 := Lib.hid (HT_u114_u115.out.trans (hB.mono HT_u114_u115.out.size))
              have HT_u115_u126 := Lib.hid hB
              have HB_u126 := Lib.hid (HB_u115.out.trans (hB.mono HB_u115.out.size))
              clear hB hHeld
              refine hK.out _ _ HB_u126.out (fun hHeld => ?_)
              clear hK K
              refine norm_ (a' := ?_) ?_ ?_
              rotate_left
              · show Act.put _ (some 9) _ = _
                simp only [Act.put, List.setIfInBounds_toArray, List.set_cons_zero, List.set_cons_succ, i64_w, i32_w]
                rfl
              have hzz := ((Below.refl u126.heap.size u126).block _ (Array.getElem?_eq_some_iff.1 HZ_u126.out).1).trans HZ_u126.out
              have hnn : NIn u126 (fun b => b < u126.heap.size ∧ b ≠ u115.heap.size) _ [.int .i64 u116, .int .i64 u117, .int .i64 u118, .int .i64 u119, .slice u120 u122 u123, .slice u121 u124 u125] := (HN_u115.out.move (fun b hb => HT_u115_u126.out.block b hb.2)).mono (fun b hb => ⟨Nat.lt_of_lt_of_le hb.2 HT_u115_u126.out.size, by have h1 := HZS_u126.out; omega⟩)
              have hput := HeldT.put hnn hzz rfl
              have hbp : Below x8.heap.size x8 (put6 u126 u115.heap.size 0 (.int .i64 u116) (.int .i64 u117) (.int .i64 u118) (.int .i64 u119) (.slice u120 u122 u123) (.slice u121 u124 u125)) := put6_below HB_u126.out HB_u115.out.size _ _ _ _ _ _ _
              have HPUT := Lib.hid hput
              have HBP := Lib.hid hbp
              have d0 := cell_heap (i := 0) hzz rfl
              have d1 := cell_heap (i := 1) hzz rfl
              have d2 := cell_heap (i := 2) hzz rfl
              have d3 := cell_heap (i := 3) hzz rfl
              have d4 := cell_heap (i := 4) hzz rfl
              have d5 := cell_heap (i := 5) hzz rfl
              have q0 : ∀ o, u126.frozen? ⟨u115.heap.size, o, none⟩ = false := fun o => by simp [World.frozen?, hzz]
              clear hzz hnn hput hbp hHeld
              refine last_ (i := 8) (N := none) #[true, true, true, true, true, true, true, true, true] rfl rfl (one_of HT_.out (by kernel_rfl)) (by decide) (fun K hK => ?_)
              refine skip_ (w1 := ?_) (by rfl) rfl ?_ ?_
              rotate_left
              · go_simp
                rfl
              refine hK.out _ _ ?_
              clear hK K d0 d1 d2 d3 d4 d5 q0
              refine done_ (done_of HT_.out (by kernel_rfl)) ?_
              clear HT_
              go_wp2_with fail
              go_meet
              exact ⟨u115.heap.size, rfl, ⟨HBP.out, HPUT.out⟩⟩
            · skip
              refine value_ (v := .pointer (some ⟨u114.heap.size, 0, none⟩)) (w1 := u114.alloc (.cells #[.int .i64 0, .int .i64 0, .int .i64 0, .int .i64 0, .slice none 0 0, .slice none 0 0] 44)) (by rfl) rfl (by go_simp; first | done | rfl) ?_
              obtain ⟨u127, hnw⟩ : ∃ x, x = u114.alloc (.cells #[.int .i64 0, .int .i64 0, .int .i64 0, .int .i64 0, .slice none 0 0, .slice none 0 0] 44) := ⟨_, rfl⟩
              rw [← hnw]
              have hB : Below u114.heap.size u114 u127 := by rw [hnw]; exact (Below.refl _ u114).alloc (Nat.le_refl _) _
              have HZ_u127 := Lib.hid (show u127.heap[u114.heap.size]? = some (.cells #[.int .i64 0, .int .i64 0, .int .i64 0, .int .i64 0, .slice none 0 0, .slice none 0 0] 44 (0, 0)) by rw [hnw]; exact World.alloc_heap_new u114 _)
              have HZS_u127 := Lib.hid (show u127.heap.size = u114.heap.size + 1 by rw [hnw]; simp)
              clear hnw
              have HT_u102_u127 := Lib.hid (HT_u102_u114.out.trans (hB.mono HT_u102_u114.out.size))
              have HT_u103_u127 := Lib.hid (HT_u103_u114.out.trans (hB.mono HT_u103_u114.out.size))
              have HT_u114_u127 := Lib.hid hB
              have HB_u127 := Lib.hid (HB_u114.out.trans (hB.mono HB_u114.out.size))
              clear hB hHeld
              refine hK.out _ _ HB_u127.out (fun hHeld => ?_)
              clear hK K
              refine norm_ (a' := ?_) ?_ ?_
              rotate_left
              · show Act.put _ (some 9) _ = _
                simp only [Act.put, List.setIfInBounds_toArray, List.set_cons_zero, List.set_cons_succ, i64_w, i32_w]
                rfl
              refine one_ (i := 6) (N := some 39) #[true, true, true, true, true, true, true, true, false] rfl rfl (one_of HT_.out (by kernel_rfl)) (by decide) (fun K hK => ?_)
              refine goes_ Try.func55 (by kernel_rfl) rfl #[.slice (some ⟨u103.heap.size, 0, none⟩) 2 2] (by rfl) rfl rfl (by (try simp only [List.map_toArray, List.map_cons, List.map_nil]); first | done | rfl) ?_
              have hrb := (HT_u114_u127.out.block _ (Array.getElem?_eq_some_iff.1 HR_u114.out).1).trans HR_u114.out
              refine (cat_of2 u127 _ (.mk k0 m0 l0 hh0 r0 s0) (catT [.mk k1 m1 l1 hh1 r1 s1, .mk k2 m2 l2 hh2 r2 s2]) [.int .i64 k0, .int .i64 m0, .int .i64 l0, .int .i64 hh0, .slice ar0 r0.length cr0, .slice ak0 s0.length ck0] [.int .i64 u104, .int .i64 u105, .int .i64 u106, .int .i64 u107, .slice u108 u110 u111, .slice u109 u112 u113] hrb ((G0.out.move (fun b hb => (HB_u127.out.block b (Nat.lt_of_lt_of_le hb HJ_x8.out.bel.size)).trans (HJ_x8.out.bel.block b hb))).mono (fun b hb => Nat.lt_of_lt_of_le hb (Nat.le_trans HJ_x8.out.bel.size HB_u127.out.size))) ((HN_u103.out.move (fun b hb => HT_u103_u127.out.block b hb.2)).mono (fun b hb => Nat.lt_of_lt_of_le hb.2 HT_u103_u127.out.size)) (by have hnd := HND.out; have := catT_nodes [.mk k1 m1 l1 hh1 r1 s1, .mk k2 m2 l2 hh2 r2 s2]; simp only [NT.nodesL] at this; omega)).mono ?_
              rintro e u128 ⟨u129, u130, u131, u132, u133, u134, u135, u136, u137, u138, rfl, hNn, hB⟩
              have HN_u128 := Lib.hid hNn
              clear hNn hrb
              refine ⟨_, rfl, ?_⟩
              have HT_u102_u128 := Lib.hid (HT_u102_u127.out.trans (hB.mono HT_u102_u127.out.size))
              have HT_u103_u128 := Lib.hid (HT_u103_u127.out.trans (hB.mono HT_u103_u127.out.size))
              have HT_u114_u128 := Lib.hid (HT_u114_u127.out.trans (hB.mono HT_u114_u127.out.size))
              have HT_u127_u128 := Lib.hid hB
              have HB_u128 := Lib.hid (HB_u127.out.trans (hB.mono HB_u127.out.size))
              clear hB hHeld
              refine hK.out _ _ HB_u128.out (fun hHeld => ?_)
              clear hK K
              refine norm_ (a' := ?_) ?_ ?_
              rotate_left
              · show Act.put _ (some 39) _ = _
                simp only [Act.put, List.setIfInBounds_toArray, List.set_cons_zero, List.set_cons_succ, i64_w, i32_w]
                rfl
              have hzz := (HT_u127_u128.out.block _ (Array.getElem?_eq_some_iff.1 HZ_u127.out).1).trans HZ_u127.out
              have hnn : NIn u128 (fun b => b < u128.heap.size ∧ b ≠ u114.heap.size) _ [.int .i64 u129, .int .i64 u130, .int .i64 u131, .int .i64 u132, .slice u133 u135 u136, .slice u134 u137 u138] := (HN_u128.out.move (fun b hb => (Below.refl u128.heap.size u128).block b hb.2)).mono (fun b hb => ⟨Nat.lt_of_lt_of_le hb.2 (Below.refl u128.heap.size u128).size, by have h1 := HZS_u127.out; omega⟩)
              have hput := HeldT.put hnn hzz rfl
              have hbp : Below x8.heap.size x8 (put6 u128 u114.heap.size 0 (.int .i64 u129) (.int .i64 u130) (.int .i64 u131) (.int .i64 u132) (.slice u133 u135 u136) (.slice u134 u137 u138)) := put6_below HB_u128.out HB_u114.out.size _ _ _ _ _ _ _
              have HPUT := Lib.hid hput
              have HBP := Lib.hid hbp
              have d0 := cell_heap (i := 0) hzz rfl
              have d1 := cell_heap (i := 1) hzz rfl
              have d2 := cell_heap (i := 2) hzz rfl
              have d3 := cell_heap (i := 3) hzz rfl
              have d4 := cell_heap (i := 4) hzz rfl
              have d5 := cell_heap (i := 5) hzz rfl
              have q0 : ∀ o, u128.frozen? ⟨u114.heap.size, o, none⟩ = false := fun o => by simp [World.frozen?, hzz]
              clear hzz hnn hput hbp hHeld
              refine last_ (i := 8) (N := none) #[true, true, true, true, true, true, true, true, true] rfl rfl (one_of HT_.out (by kernel_rfl)) (by decide) (fun K hK => ?_)
              refine skip_ (w1 := ?_) (by rfl) rfl ?_ ?_
              rotate_left
              · go_simp
                rfl
              refine hK.out _ _ ?_
              clear hK K d0 d1 d2 d3 d4 d5 q0
              refine done_ (done_of HT_.out (by kernel_rfl)) ?_
              clear HT_
              go_wp2_with fail
              go_meet
              exact ⟨u114.heap.size, rfl, ⟨HBP.out, HPUT.out⟩⟩
          · skip
            refine value_ (v := .pointer (some ⟨u103.heap.size, 0, none⟩)) (w1 := u103.alloc (.cells #[.int .i64 0, .int .i64 0, .int .i64 0, .int .i64 0, .slice none 0 0, .slice none 0 0] 44)) (by rfl) rfl (by go_simp; first | done | rfl) ?_
            obtain ⟨u139, hnw⟩ : ∃ x, x = u103.alloc (.cells #[.int .i64 0, .int .i64 0, .int .i64 0, .int .i64 0, .slice none 0 0, .slice none 0 0] 44) := ⟨_, rfl⟩
            rw [← hnw]
            have hB : Below u103.heap.size u103 u139 := by rw [hnw]; exact (Below.refl _ u103).alloc (Nat.le_refl _) _
            have HZ_u139 := Lib.hid (show u139.heap[u103.heap.size]? = some (.cells #[.int .i64 0, .int .i64 0, .int .i64 0, .int .i64 0, .slice none 0 0, .slice none 0 0] 44 (0, 0)) by rw [hnw]; exact World.alloc_heap_new u103 _)
            have HZS_u139 := Lib.hid (show u139.heap.size = u103.heap.size + 1 by rw [hnw]; simp)
            clear hnw
            have HT_u102_u139 := Lib.hid (HT_u102_u103.out.trans (hB.mono HT_u102_u103.out.size))
            have HT_u103_u139 := Lib.hid hB
            have HB_u139 := Lib.hid (HB_u103.out.trans (hB.mono HB_u103.out.size))
            clear hB hHeld
            refine hK.out _ _ HB_u139.out (fun hHeld => ?_)
            clear hK K
            refine norm_ (a' := ?_) ?_ ?_
            rotate_left
            · show Act.put _ (some 9) _ = _
              simp only [Act.put, List.setIfInBounds_toArray, List.set_cons_zero, List.set_cons_succ, i64_w, i32_w]
              rfl
            refine one_ (i := 5) (N := some 38) #[true, true, true, true, true, true, false, true, false] rfl rfl (one_of HT_.out (by kernel_rfl)) (by decide) (fun K hK => ?_)
            refine value_ (v := .slice (some ⟨u139.heap.size, 0, none⟩) 2 2) (w1 := u139.alloc (.cells #[.int .i64 k0, .int .i64 m0, .int .i64 l0, .int .i64 hh0, .slice ar0 r0.length cr0, .slice ak0 s0.length ck0, .int .i64 u104, .int .i64 u105, .int .i64 u106, .int .i64 u107, .slice u108 u110 u111, .slice u109 u112 u113] 44)) (by rfl) rfl (by go_simp; first | done | rfl) ?_
            obtain ⟨u140, hnw⟩ : ∃ x, x = u139.alloc (.cells #[.int .i64 k0, .int .i64 m0, .int .i64 l0, .int .i64 hh0, .slice ar0 r0.length cr0, .slice ak0 s0.length ck0, .int .i64 u104, .int .i64 u105, .int .i64 u106, .int .i64 u107, .slice u108 u110 u111, .slice u109 u112 u113] 44) := ⟨_, rfl⟩
            rw [← hnw]
            have hB : Below u139.heap.size u139 u140 := by rw [hnw]; exact (Below.refl _ u139).alloc (Nat.le_refl _) _
            have HR_u140 := Lib.hid (show u140.heap[u139.heap.size]? = some (.cells #[.int .i64 k0, .int .i64 m0, .int .i64 l0, .int .i64 hh0, .slice ar0 r0.length cr0, .slice ak0 s0.length ck0, .int .i64 u104, .int .i64 u105, .int .i64 u106, .int .i64 u107, .slice u108 u110 u111, .slice u109 u112 u113] 44 (0, 0)) by rw [hnw]; exact World.alloc_heap_new u139 _)
            clear hnw
            have HT_u102_u140 := Lib.hid (HT_u102_u139.out.trans (hB.mono HT_u102_u139.out.size))
            have HT_u103_u140 := Lib.hid (HT_u103_u139.out.trans (hB.mono HT_u103_u139.out.size))
            have HT_u139_u140 := Lib.hid hB
            have HB_u140 := Lib.hid (HB_u139.out.trans (hB.mono HB_u139.out.size))
            clear hB hHeld
            refine hK.out _ _ HB_u140.out (fun hHeld => ?_)
            clear hK K
            refine norm_ (a' := ?_) ?_ ?_
            rotate_left
            · show Act.put _ (some 38) _ = _
              simp only [Act.put, List.setIfInBounds_toArray, List.set_cons_zero, List.set_cons_succ, i64_w, i32_w]
              rfl
            refine one_ (i := 6) (N := some 39) #[true, true, true, true, true, true, true, true, false] rfl rfl (one_of HT_.out (by kernel_rfl)) (by decide) (fun K hK => ?_)
            refine goes_ Try.func55 (by kernel_rfl) rfl #[.slice (some ⟨u139.heap.size, 0, none⟩) 2 2] (by rfl) rfl rfl (by (try simp only [List.map_toArray, List.map_cons, List.map_nil]); first | done | rfl) ?_
            have hrb := ((Below.refl u140.heap.size u140).block _ (Array.getElem?_eq_some_iff.1 HR_u140.out).1).trans HR_u140.out
            refine (cat_of2 u140 _ (.mk k0 m0 l0 hh0 r0 s0) (catT [.mk k1 m1 l1 hh1 r1 s1, .mk k2 m2 l2 hh2 r2 s2]) [.int .i64 k0, .int .i64 m0, .int .i64 l0, .int .i64 hh0, .slice ar0 r0.length cr0, .slice ak0 s0.length ck0] [.int .i64 u104, .int .i64 u105, .int .i64 u106, .int .i64 u107, .slice u108 u110 u111, .slice u109 u112 u113] hrb ((G0.out.move (fun b hb => (HB_u140.out.block b (Nat.lt_of_lt_of_le hb HJ_x8.out.bel.size)).trans (HJ_x8.out.bel.block b hb))).mono (fun b hb => Nat.lt_of_lt_of_le hb (Nat.le_trans HJ_x8.out.bel.size HB_u140.out.size))) ((HN_u103.out.move (fun b hb => HT_u103_u140.out.block b hb.2)).mono (fun b hb => Nat.lt_of_lt_of_le hb.2 HT_u103_u140.out.size)) (by have hnd := HND.out; have := catT_nodes [.mk k1 m1 l1 hh1 r1 s1, .mk k2 m2 l2 hh2 r2 s2]; simp only [NT.nodesL] at this; omega)).mono ?_
            rintro e u141 ⟨u142, u143, u144, u145, u146, u147, u148, u149, u150, u151, rfl, hNn, hB⟩
            have HN_u141 := Lib.hid hNn
            clear hNn hrb
            refine ⟨_, rfl, ?_⟩
            have HT_u102_u141 := Lib.hid (HT_u102_u140.out.trans (hB.mono HT_u102_u140.out.size))
            have HT_u103_u141 := Lib.hid (HT_u103_u140.out.trans (hB.mono HT_u103_u140.out.size))
            have HT_u139_u141 := Lib.hid (HT_u139_u140.out.trans (hB.mono HT_u139_u140.out.size))
            have HT_u140_u141 := Lib.hid hB
            have HB_u141 := Lib.hid (HB_u140.out.trans (hB.mono HB_u140.out.size))
            clear hB hHeld
            refine hK.out _ _ HB_u141.out (fun hHeld => ?_)
            clear hK K
            refine norm_ (a' := ?_) ?_ ?_
            rotate_left
            · show Act.put _ (some 39) _ = _
              simp only [Act.put, List.setIfInBounds_toArray, List.set_cons_zero, List.set_cons_succ, i64_w, i32_w]
              rfl
            have hzz := (HT_u139_u141.out.block _ (Array.getElem?_eq_some_iff.1 HZ_u139.out).1).trans HZ_u139.out
            have hnn : NIn u141 (fun b => b < u141.heap.size ∧ b ≠ u103.heap.size) _ [.int .i64 u142, .int .i64 u143, .int .i64 u144, .int .i64 u145, .slice u146 u148 u149, .slice u147 u150 u151] := (HN_u141.out.move (fun b hb => (Below.refl u141.heap.size u141).block b hb.2)).mono (fun b hb => ⟨Nat.lt_of_lt_of_le hb.2 (Below.refl u141.heap.size u141).size, by have h1 := HZS_u139.out; have h2 := HT_u139_u140.out.size; omega⟩)
            have hput := HeldT.put hnn hzz rfl
            have hbp : Below x8.heap.size x8 (put6 u141 u103.heap.size 0 (.int .i64 u142) (.int .i64 u143) (.int .i64 u144) (.int .i64 u145) (.slice u146 u148 u149) (.slice u147 u150 u151)) := put6_below HB_u141.out HB_u103.out.size _ _ _ _ _ _ _
            have HPUT := Lib.hid hput
            have HBP := Lib.hid hbp
            have d0 := cell_heap (i := 0) hzz rfl
            have d1 := cell_heap (i := 1) hzz rfl
            have d2 := cell_heap (i := 2) hzz rfl
            have d3 := cell_heap (i := 3) hzz rfl
            have d4 := cell_heap (i := 4) hzz rfl
            have d5 := cell_heap (i := 5) hzz rfl
            have q0 : ∀ o, u141.frozen? ⟨u103.heap.size, o, none⟩ = false := fun o => by simp [World.frozen?, hzz]
            clear hzz hnn hput hbp hHeld
            refine last_ (i := 8) (N := none) #[true, true, true, true, true, true, true, true, true] rfl rfl (one_of HT_.out (by kernel_rfl)) (by decide) (fun K hK => ?_)
            refine skip_ (w1 := ?_) (by rfl) rfl ?_ ?_
            rotate_left
            · go_simp
              rfl
            refine hK.out _ _ ?_
            clear hK K d0 d1 d2 d3 d4 d5 q0
            refine done_ (done_of HT_.out (by kernel_rfl)) ?_
            clear HT_
            go_wp2_with fail
            go_meet
            exact ⟨u103.heap.size, rfl, ⟨HBP.out, HPUT.out⟩⟩
        · skip
          refine value_ (v := .pointer (some ⟨u102.heap.size, 0, none⟩)) (w1 := u102.alloc (.cells #[.int .i64 0, .int .i64 0, .int .i64 0, .int .i64 0, .slice none 0 0, .slice none 0 0] 44)) (by rfl) rfl (by go_simp; first | done | rfl) ?_
          obtain ⟨u152, hnw⟩ : ∃ x, x = u102.alloc (.cells #[.int .i64 0, .int .i64 0, .int .i64 0, .int .i64 0, .slice none 0 0, .slice none 0 0] 44) := ⟨_, rfl⟩
          rw [← hnw]
          have hB : Below u102.heap.size u102 u152 := by rw [hnw]; exact (Below.refl _ u102).alloc (Nat.le_refl _) _
          have HZ_u152 := Lib.hid (show u152.heap[u102.heap.size]? = some (.cells #[.int .i64 0, .int .i64 0, .int .i64 0, .int .i64 0, .slice none 0 0, .slice none 0 0] 44 (0, 0)) by rw [hnw]; exact World.alloc_heap_new u102 _)
          have HZS_u152 := Lib.hid (show u152.heap.size = u102.heap.size + 1 by rw [hnw]; simp)
          clear hnw
          have HT_u102_u152 := Lib.hid hB
          have HB_u152 := Lib.hid (HB_u102.out.trans (hB.mono HB_u102.out.size))
          clear hB hHeld
          refine hK.out _ _ HB_u152.out (fun hHeld => ?_)
          clear hK K
          refine norm_ (a' := ?_) ?_ ?_
          rotate_left
          · show Act.put _ (some 9) _ = _
            simp only [Act.put, List.setIfInBounds_toArray, List.set_cons_zero, List.set_cons_succ, i64_w, i32_w]
            rfl
          refine one_ (i := 4) (N := some 37) #[true, true, true, true, true, false, false, true, false] rfl rfl (one_of HT_.out (by kernel_rfl)) (by decide) (fun K hK => ?_)
          refine goes_ Try.func55 (by kernel_rfl) rfl #[.slice (some ⟨u101.heap.size, 0, none⟩) 2 2] (by rfl) rfl rfl (by (try simp only [List.map_toArray, List.map_cons, List.map_nil]); first | done | rfl) ?_
          have hrb := (HT_u102_u152.out.block _ (Array.getElem?_eq_some_iff.1 HR_u102.out).1).trans HR_u102.out
          refine (cat_of2 u152 _ (.mk k1 m1 l1 hh1 r1 s1) (.mk k2 m2 l2 hh2 r2 s2) [.int .i64 k1, .int .i64 m1, .int .i64 l1, .int .i64 hh1, .slice ar1 r1.length cr1, .slice ak1 s1.length ck1] [.int .i64 k2, .int .i64 m2, .int .i64 l2, .int .i64 hh2, .slice ar2 r2.length cr2, .slice ak2 s2.length ck2] hrb ((G1.out.move (fun b hb => (HB_u152.out.block b (Nat.lt_of_lt_of_le hb HJ_x8.out.bel.size)).trans (HJ_x8.out.bel.block b hb))).mono (fun b hb => Nat.lt_of_lt_of_le hb (Nat.le_trans HJ_x8.out.bel.size HB_u152.out.size))) ((G2.out.move (fun b hb => (HB_u152.out.block b (Nat.lt_of_lt_of_le hb HJ_x8.out.bel.size)).trans (HJ_x8.out.bel.block b hb))).mono (fun b hb => Nat.lt_of_lt_of_le hb (Nat.le_trans HJ_x8.out.bel.size HB_u152.out.size))) (by have hnd := HND.out; omega)).mono ?_
          rintro e u153 ⟨u154, u155, u156, u157, u158, u159, u160, u161, u162, u163, rfl, hNn, hB⟩
          have HN_u153 := Lib.hid hNn
          clear hNn hrb
          refine ⟨_, rfl, ?_⟩
          have HT_u102_u153 := Lib.hid (HT_u102_u152.out.trans (hB.mono HT_u102_u152.out.size))
          have HT_u152_u153 := Lib.hid hB
          have HB_u153 := Lib.hid (HB_u152.out.trans (hB.mono HB_u152.out.size))
          clear hB hHeld
          refine hK.out _ _ HB_u153.out (fun hHeld => ?_)
          clear hK K
          refine norm_ (a' := ?_) ?_ ?_
          rotate_left
          · show Act.put _ (some 37) _ = _
            simp only [Act.put, List.setIfInBounds_toArray, List.set_cons_zero, List.set_cons_succ, i64_w, i32_w]
            rfl
          refine one_ (i := 5) (N := some 38) #[true, true, true, true, true, true, false, true, false] rfl rfl (one_of HT_.out (by kernel_rfl)) (by decide) (fun K hK => ?_)
          refine value_ (v := .slice (some ⟨u153.heap.size, 0, none⟩) 2 2) (w1 := u153.alloc (.cells #[.int .i64 k0, .int .i64 m0, .int .i64 l0, .int .i64 hh0, .slice ar0 r0.length cr0, .slice ak0 s0.length ck0, .int .i64 u154, .int .i64 u155, .int .i64 u156, .int .i64 u157, .slice u158 u160 u161, .slice u159 u162 u163] 44)) (by rfl) rfl (by go_simp; first | done | rfl) ?_
          obtain ⟨u164, hnw⟩ : ∃ x, x = u153.alloc (.cells #[.int .i64 k0, .int .i64 m0, .int .i64 l0, .int .i64 hh0, .slice ar0 r0.length cr0, .slice ak0 s0.length ck0, .int .i64 u154, .int .i64 u155, .int .i64 u156, .int .i64 u157, .slice u158 u160 u161, .slice u159 u162 u163] 44) := ⟨_, rfl⟩
          rw [← hnw]
          have hB : Below u153.heap.size u153 u164 := by rw [hnw]; exact (Below.refl _ u153).alloc (Nat.le_refl _) _
          have HR_u164 := Lib.hid (show u164.heap[u153.heap.size]? = some (.cells #[.int .i64 k0, .int .i64 m0, .int .i64 l0, .int .i64 hh0, .slice ar0 r0.length cr0, .slice ak0 s0.length ck0, .int .i64 u154, .int .i64 u155, .int .i64 u156, .int .i64 u157, .slice u158 u160 u161, .slice u159 u162 u163] 44 (0, 0)) by rw [hnw]; exact World.alloc_heap_new u153 _)
          clear hnw
          have HT_u102_u164 := Lib.hid (HT_u102_u153.out.trans (hB.mono HT_u102_u153.out.size))
          have HT_u152_u164 := Lib.hid (HT_u152_u153.out.trans (hB.mono HT_u152_u153.out.size))
          have HT_u153_u164 := Lib.hid hB
          have HB_u164 := Lib.hid (HB_u153.out.trans (hB.mono HB_u153.out.size))
          clear hB hHeld
          refine hK.out _ _ HB_u164.out (fun hHeld => ?_)
          clear hK K
          refine norm_ (a' := ?_) ?_ ?_
          rotate_left
          · show Act.put _ (some 38) _ = _
            simp only [Act.put, List.setIfInBounds_toArray, List.set_cons_zero, List.set_cons_succ, i64_w, i32_w]
            rfl
          refine one_ (i := 6) (N := some 39) #[true, true, true, true, true, true, true, true, false] rfl rfl (one_of HT_.out (by kernel_rfl)) (by decide) (fun K hK => ?_)
          refine goes_ Try.func55 (by kernel_rfl) rfl #[.slice (some ⟨u153.heap.size, 0, none⟩) 2 2] (by rfl) rfl rfl (by (try simp only [List.map_toArray, List.map_cons, List.map_nil]); first | done | rfl) ?_
          have hrb := ((Below.refl u164.heap.size u164).block _ (Array.getElem?_eq_some_iff.1 HR_u164.out).1).trans HR_u164.out
          refine (cat_of2 u164 _ (.mk k0 m0 l0 hh0 r0 s0) (catT [.mk k1 m1 l1 hh1 r1 s1, .mk k2 m2 l2 hh2 r2 s2]) [.int .i64 k0, .int .i64 m0, .int .i64 l0, .int .i64 hh0, .slice ar0 r0.length cr0, .slice ak0 s0.length ck0] [.int .i64 u154, .int .i64 u155, .int .i64 u156, .int .i64 u157, .slice u158 u160 u161, .slice u159 u162 u163] hrb ((G0.out.move (fun b hb => (HB_u164.out.block b (Nat.lt_of_lt_of_le hb HJ_x8.out.bel.size)).trans (HJ_x8.out.bel.block b hb))).mono (fun b hb => Nat.lt_of_lt_of_le hb (Nat.le_trans HJ_x8.out.bel.size HB_u164.out.size))) ((HN_u153.out.move (fun b hb => HT_u153_u164.out.block b hb.2)).mono (fun b hb => Nat.lt_of_lt_of_le hb.2 HT_u153_u164.out.size)) (by have hnd := HND.out; have := catT_nodes [.mk k1 m1 l1 hh1 r1 s1, .mk k2 m2 l2 hh2 r2 s2]; simp only [NT.nodesL] at this; omega)).mono ?_
          rintro e u165 ⟨u166, u167, u168, u169, u170, u171, u172, u173, u174, u175, rfl, hNn, hB⟩
          have HN_u165 := Lib.hid hNn
          clear hNn hrb
          refine ⟨_, rfl, ?_⟩
          have HT_u102_u165 := Lib.hid (HT_u102_u164.out.trans (hB.mono HT_u102_u164.out.size))
          have HT_u152_u165 := Lib.hid (HT_u152_u164.out.trans (hB.mono HT_u152_u164.out.size))
          have HT_u153_u165 := Lib.hid (HT_u153_u164.out.trans (hB.mono HT_u153_u164.out.size))
          have HT_u164_u165 := Lib.hid hB
          have HB_u165 := Lib.hid (HB_u164.out.trans (hB.mono HB_u164.out.size))
          clear hB hHeld
          refine hK.out _ _ HB_u165.out (fun hHeld => ?_)
          clear hK K
          refine norm_ (a' := ?_) ?_ ?_
          rotate_left
          · show Act.put _ (some 39) _ = _
            simp only [Act.put, List.setIfInBounds_toArray, List.set_cons_zero, List.set_cons_succ, i64_w, i32_w]
            rfl
          have hzz := (HT_u152_u165.out.block _ (Array.getElem?_eq_some_iff.1 HZ_u152.out).1).trans HZ_u152.out
          have hnn : NIn u165 (fun b => b < u165.heap.size ∧ b ≠ u102.heap.size) _ [.int .i64 u166, .int .i64 u167, .int .i64 u168, .int .i64 u169, .slice u170 u172 u173, .slice u171 u174 u175] := (HN_u165.out.move (fun b hb => (Below.refl u165.heap.size u165).block b hb.2)).mono (fun b hb => ⟨Nat.lt_of_lt_of_le hb.2 (Below.refl u165.heap.size u165).size, by have h1 := HZS_u152.out; have h2 := HT_u152_u164.out.size; omega⟩)
          have hput := HeldT.put hnn hzz rfl
          have hbp : Below x8.heap.size x8 (put6 u165 u102.heap.size 0 (.int .i64 u166) (.int .i64 u167) (.int .i64 u168) (.int .i64 u169) (.slice u170 u172 u173) (.slice u171 u174 u175)) := put6_below HB_u165.out HB_u102.out.size _ _ _ _ _ _ _
          have HPUT := Lib.hid hput
          have HBP := Lib.hid hbp
          have d0 := cell_heap (i := 0) hzz rfl
          have d1 := cell_heap (i := 1) hzz rfl
          have d2 := cell_heap (i := 2) hzz rfl
          have d3 := cell_heap (i := 3) hzz rfl
          have d4 := cell_heap (i := 4) hzz rfl
          have d5 := cell_heap (i := 5) hzz rfl
          have q0 : ∀ o, u165.frozen? ⟨u102.heap.size, o, none⟩ = false := fun o => by simp [World.frozen?, hzz]
          clear hzz hnn hput hbp hHeld
          refine last_ (i := 8) (N := none) #[true, true, true, true, true, true, true, true, true] rfl rfl (one_of HT_.out (by kernel_rfl)) (by decide) (fun K hK => ?_)
          refine skip_ (w1 := ?_) (by rfl) rfl ?_ ?_
          rotate_left
          · go_simp
            rfl
          refine hK.out _ _ ?_
          clear hK K d0 d1 d2 d3 d4 d5 q0
          refine done_ (done_of HT_.out (by kernel_rfl)) ?_
          clear HT_
          go_wp2_with fail
          go_meet
          exact ⟨u102.heap.size, rfl, ⟨HBP.out, HPUT.out⟩⟩
      · skip
        refine value_ (v := .pointer (some ⟨u101.heap.size, 0, none⟩)) (w1 := u101.alloc (.cells #[.int .i64 0, .int .i64 0, .int .i64 0, .int .i64 0, .slice none 0 0, .slice none 0 0] 44)) (by rfl) rfl (by go_simp; first | done | rfl) ?_
        obtain ⟨u176, hnw⟩ : ∃ x, x = u101.alloc (.cells #[.int .i64 0, .int .i64 0, .int .i64 0, .int .i64 0, .slice none 0 0, .slice none 0 0] 44) := ⟨_, rfl⟩
        rw [← hnw]
        have hB : Below u101.heap.size u101 u176 := by rw [hnw]; exact (Below.refl _ u101).alloc (Nat.le_refl _) _
        have HZ_u176 := Lib.hid (show u176.heap[u101.heap.size]? = some (.cells #[.int .i64 0, .int .i64 0, .int .i64 0, .int .i64 0, .slice none 0 0, .slice none 0 0] 44 (0, 0)) by rw [hnw]; exact World.alloc_heap_new u101 _)
        have HZS_u176 := Lib.hid (show u176.heap.size = u101.heap.size + 1 by rw [hnw]; simp)
        clear hnw
        have HB_u176 := Lib.hid (HB0x8.out.trans (hB.mono HB0x8.out.size))
        clear hB hHeld
        refine hK.out _ _ HB_u176.out (fun hHeld => ?_)
        clear hK K
        refine norm_ (a' := ?_) ?_ ?_
        rotate_left
        · show Act.put _ (some 9) _ = _
          simp only [Act.put, List.setIfInBounds_toArray, List.set_cons_zero, List.set_cons_succ, i64_w, i32_w]
          rfl
        refine one_ (i := 3) (N := some 36) #[true, true, true, true, false, false, false, true, false] rfl rfl (one_of HT_.out (by kernel_rfl)) (by decide) (fun K hK => ?_)
        refine value_ (v := .slice (some ⟨u176.heap.size, 0, none⟩) 2 2) (w1 := u176.alloc (.cells #[.int .i64 k1, .int .i64 m1, .int .i64 l1, .int .i64 hh1, .slice ar1 r1.length cr1, .slice ak1 s1.length ck1, .int .i64 k2, .int .i64 m2, .int .i64 l2, .int .i64 hh2, .slice ar2 r2.length cr2, .slice ak2 s2.length ck2] 44)) (by rfl) rfl (by go_simp; first | done | rfl) ?_
        obtain ⟨u177, hnw⟩ : ∃ x, x = u176.alloc (.cells #[.int .i64 k1, .int .i64 m1, .int .i64 l1, .int .i64 hh1, .slice ar1 r1.length cr1, .slice ak1 s1.length ck1, .int .i64 k2, .int .i64 m2, .int .i64 l2, .int .i64 hh2, .slice ar2 r2.length cr2, .slice ak2 s2.length ck2] 44) := ⟨_, rfl⟩
        rw [← hnw]
        have hB : Below u176.heap.size u176 u177 := by rw [hnw]; exact (Below.refl _ u176).alloc (Nat.le_refl _) _
        have HR_u177 := Lib.hid (show u177.heap[u176.heap.size]? = some (.cells #[.int .i64 k1, .int .i64 m1, .int .i64 l1, .int .i64 hh1, .slice ar1 r1.length cr1, .slice ak1 s1.length ck1, .int .i64 k2, .int .i64 m2, .int .i64 l2, .int .i64 hh2, .slice ar2 r2.length cr2, .slice ak2 s2.length ck2] 44 (0, 0)) by rw [hnw]; exact World.alloc_heap_new u176 _)
        clear hnw
        have HT_u176_u177 := Lib.hid hB
        have HB_u177 := Lib.hid (HB_u176.out.trans (hB.mono HB_u176.out.size))
        clear hB hHeld
        refine hK.out _ _ HB_u177.out (fun hHeld => ?_)
        clear hK K
        refine norm_ (a' := ?_) ?_ ?_
        rotate_left
        · show Act.put _ (some 36) _ = _
          simp only [Act.put, List.setIfInBounds_toArray, List.set_cons_zero, List.set_cons_succ, i64_w, i32_w]
          rfl
        refine one_ (i := 4) (N := some 37) #[true, true, true, true, true, false, false, true, false] rfl rfl (one_of HT_.out (by kernel_rfl)) (by decide) (fun K hK => ?_)
        refine goes_ Try.func55 (by kernel_rfl) rfl #[.slice (some ⟨u176.heap.size, 0, none⟩) 2 2] (by rfl) rfl rfl (by (try simp only [List.map_toArray, List.map_cons, List.map_nil]); first | done | rfl) ?_
        have hrb := ((Below.refl u177.heap.size u177).block _ (Array.getElem?_eq_some_iff.1 HR_u177.out).1).trans HR_u177.out
        refine (cat_of2 u177 _ (.mk k1 m1 l1 hh1 r1 s1) (.mk k2 m2 l2 hh2 r2 s2) [.int .i64 k1, .int .i64 m1, .int .i64 l1, .int .i64 hh1, .slice ar1 r1.length cr1, .slice ak1 s1.length ck1] [.int .i64 k2, .int .i64 m2, .int .i64 l2, .int .i64 hh2, .slice ar2 r2.length cr2, .slice ak2 s2.length ck2] hrb ((G1.out.move (fun b hb => (HB_u177.out.block b (Nat.lt_of_lt_of_le hb HJ_x8.out.bel.size)).trans (HJ_x8.out.bel.block b hb))).mono (fun b hb => Nat.lt_of_lt_of_le hb (Nat.le_trans HJ_x8.out.bel.size HB_u177.out.size))) ((G2.out.move (fun b hb => (HB_u177.out.block b (Nat.lt_of_lt_of_le hb HJ_x8.out.bel.size)).trans (HJ_x8.out.bel.block b hb))).mono (fun b hb => Nat.lt_of_lt_of_le hb (Nat.le_trans HJ_x8.out.bel.size HB_u177.out.size))) (by have hnd := HND.out; omega)).mono ?_
        rintro e u178 ⟨u179, u180, u181, u182, u183, u184, u185, u186, u187, u188, rfl, hNn, hB⟩
        have HN_u178 := Lib.hid hNn
        clear hNn hrb
        refine ⟨_, rfl, ?_⟩
        have HT_u176_u178 := Lib.hid (HT_u176_u177.out.trans (hB.mono HT_u176_u177.out.size))
        have HT_u177_u178 := Lib.hid hB
        have HB_u178 := Lib.hid (HB_u177.out.trans (hB.mono HB_u177.out.size))
        clear hB hHeld
        refine hK.out _ _ HB_u178.out (fun hHeld => ?_)
        clear hK K
        refine norm_ (a' := ?_) ?_ ?_
        rotate_left
        · show Act.put _ (some 37) _ = _
          simp only [Act.put, List.setIfInBounds_toArray, List.set_cons_zero, List.set_cons_succ, i64_w, i32_w]
          rfl
        refine one_ (i := 5) (N := some 38) #[true, true, true, true, true, true, false, true, false] rfl rfl (one_of HT_.out (by kernel_rfl)) (by decide) (fun K hK => ?_)
        refine value_ (v := .slice (some ⟨u178.heap.size, 0, none⟩) 2 2) (w1 := u178.alloc (.cells #[.int .i64 k0, .int .i64 m0, .int .i64 l0, .int .i64 hh0, .slice ar0 r0.length cr0, .slice ak0 s0.length ck0, .int .i64 u179, .int .i64 u180, .int .i64 u181, .int .i64 u182, .slice u183 u185 u186, .slice u184 u187 u188] 44)) (by rfl) rfl (by go_simp; first | done | rfl) ?_
        obtain ⟨u189, hnw⟩ : ∃ x, x = u178.alloc (.cells #[.int .i64 k0, .int .i64 m0, .int .i64 l0, .int .i64 hh0, .slice ar0 r0.length cr0, .slice ak0 s0.length ck0, .int .i64 u179, .int .i64 u180, .int .i64 u181, .int .i64 u182, .slice u183 u185 u186, .slice u184 u187 u188] 44) := ⟨_, rfl⟩
        rw [← hnw]
        have hB : Below u178.heap.size u178 u189 := by rw [hnw]; exact (Below.refl _ u178).alloc (Nat.le_refl _) _
        have HR_u189 := Lib.hid (show u189.heap[u178.heap.size]? = some (.cells #[.int .i64 k0, .int .i64 m0, .int .i64 l0, .int .i64 hh0, .slice ar0 r0.length cr0, .slice ak0 s0.length ck0, .int .i64 u179, .int .i64 u180, .int .i64 u181, .int .i64 u182, .slice u183 u185 u186, .slice u184 u187 u188] 44 (0, 0)) by rw [hnw]; exact World.alloc_heap_new u178 _)
        clear hnw
        have HT_u176_u189 := Lib.hid (HT_u176_u178.out.trans (hB.mono HT_u176_u178.out.size))
        have HT_u177_u189 := Lib.hid (HT_u177_u178.out.trans (hB.mono HT_u177_u178.out.size))
        have HT_u178_u189 := Lib.hid hB
        have HB_u189 := Lib.hid (HB_u178.out.trans (hB.mono HB_u178.out.size))
        clear hB hHeld
        refine hK.out _ _ HB_u189.out (fun hHeld => ?_)
        clear hK K
        refine norm_ (a' := ?_) ?_ ?_
        rotate_left
        · show Act.put _ (some 38) _ = _
          simp only [Act.put, List.setIfInBounds_toArray, List.set_cons_zero, List.set_cons_succ, i64_w, i32_w]
          rfl
        refine one_ (i := 6) (N := some 39) #[true, true, true, true, true, true, true, true, false] rfl rfl (one_of HT_.out (by kernel_rfl)) (by decide) (fun K hK => ?_)
        refine goes_ Try.func55 (by kernel_rfl) rfl #[.slice (some ⟨u178.heap.size, 0, none⟩) 2 2] (by rfl) rfl rfl (by (try simp only [List.map_toArray, List.map_cons, List.map_nil]); first | done | rfl) ?_
        have hrb := ((Below.refl u189.heap.size u189).block _ (Array.getElem?_eq_some_iff.1 HR_u189.out).1).trans HR_u189.out
        refine (cat_of2 u189 _ (.mk k0 m0 l0 hh0 r0 s0) (catT [.mk k1 m1 l1 hh1 r1 s1, .mk k2 m2 l2 hh2 r2 s2]) [.int .i64 k0, .int .i64 m0, .int .i64 l0, .int .i64 hh0, .slice ar0 r0.length cr0, .slice ak0 s0.length ck0] [.int .i64 u179, .int .i64 u180, .int .i64 u181, .int .i64 u182, .slice u183 u185 u186, .slice u184 u187 u188] hrb ((G0.out.move (fun b hb => (HB_u189.out.block b (Nat.lt_of_lt_of_le hb HJ_x8.out.bel.size)).trans (HJ_x8.out.bel.block b hb))).mono (fun b hb => Nat.lt_of_lt_of_le hb (Nat.le_trans HJ_x8.out.bel.size HB_u189.out.size))) ((HN_u178.out.move (fun b hb => HT_u178_u189.out.block b hb.2)).mono (fun b hb => Nat.lt_of_lt_of_le hb.2 HT_u178_u189.out.size)) (by have hnd := HND.out; have := catT_nodes [.mk k1 m1 l1 hh1 r1 s1, .mk k2 m2 l2 hh2 r2 s2]; simp only [NT.nodesL] at this; omega)).mono ?_
        rintro e u190 ⟨u191, u192, u193, u194, u195, u196, u197, u198, u199, u200, rfl, hNn, hB⟩
        have HN_u190 := Lib.hid hNn
        clear hNn hrb
        refine ⟨_, rfl, ?_⟩
        have HT_u176_u190 := Lib.hid (HT_u176_u189.out.trans (hB.mono HT_u176_u189.out.size))
        have HT_u177_u190 := Lib.hid (HT_u177_u189.out.trans (hB.mono HT_u177_u189.out.size))
        have HT_u178_u190 := Lib.hid (HT_u178_u189.out.trans (hB.mono HT_u178_u189.out.size))
        have HT_u189_u190 := Lib.hid hB
        have HB_u190 := Lib.hid (HB_u189.out.trans (hB.mono HB_u189.out.size))
        clear hB hHeld
        refine hK.out _ _ HB_u190.out (fun hHeld => ?_)
        clear hK K
        refine norm_ (a' := ?_) ?_ ?_
        rotate_left
        · show Act.put _ (some 39) _ = _
          simp only [Act.put, List.setIfInBounds_toArray, List.set_cons_zero, List.set_cons_succ, i64_w, i32_w]
          rfl
        have hzz := (HT_u176_u190.out.block _ (Array.getElem?_eq_some_iff.1 HZ_u176.out).1).trans HZ_u176.out
        have hnn : NIn u190 (fun b => b < u190.heap.size ∧ b ≠ u101.heap.size) _ [.int .i64 u191, .int .i64 u192, .int .i64 u193, .int .i64 u194, .slice u195 u197 u198, .slice u196 u199 u200] := (HN_u190.out.move (fun b hb => (Below.refl u190.heap.size u190).block b hb.2)).mono (fun b hb => ⟨Nat.lt_of_lt_of_le hb.2 (Below.refl u190.heap.size u190).size, by have h1 := HZS_u176.out; have h2 := HT_u176_u189.out.size; omega⟩)
        have hput := HeldT.put hnn hzz rfl
        have hbp : Below x8.heap.size x8 (put6 u190 u101.heap.size 0 (.int .i64 u191) (.int .i64 u192) (.int .i64 u193) (.int .i64 u194) (.slice u195 u197 u198) (.slice u196 u199 u200)) := put6_below HB_u190.out HB0x8.out.size _ _ _ _ _ _ _
        have HPUT := Lib.hid hput
        have HBP := Lib.hid hbp
        have d0 := cell_heap (i := 0) hzz rfl
        have d1 := cell_heap (i := 1) hzz rfl
        have d2 := cell_heap (i := 2) hzz rfl
        have d3 := cell_heap (i := 3) hzz rfl
        have d4 := cell_heap (i := 4) hzz rfl
        have d5 := cell_heap (i := 5) hzz rfl
        have q0 : ∀ o, u190.frozen? ⟨u101.heap.size, o, none⟩ = false := fun o => by simp [World.frozen?, hzz]
        clear hzz hnn hput hbp hHeld
        refine last_ (i := 8) (N := none) #[true, true, true, true, true, true, true, true, true] rfl rfl (one_of HT_.out (by kernel_rfl)) (by decide) (fun K hK => ?_)
        refine skip_ (w1 := ?_) (by rfl) rfl ?_ ?_
        rotate_left
        · go_simp
          rfl
        refine hK.out _ _ ?_
        clear hK K d0 d1 d2 d3 d4 d5 q0
        refine done_ (done_of HT_.out (by kernel_rfl)) ?_
        clear HT_
        go_wp2_with fail
        go_meet
        exact ⟨u101.heap.size, rfl, ⟨HBP.out, HPUT.out⟩⟩
    case rest =>
      obtain ⟨B9, rfl, hx⟩ := hcut
      obtain ⟨x9, rfl⟩ : ∃ x : World, x = wc := ⟨_, rfl⟩
      have HJ_x9 := Lib.hid (HJ_x8.out.below hx.out.1)
      have HH8_x9 := Lib.hid (HH8_x8.out.below hx.out.1)
      have HH9_x9 := Lib.hid hx.out.2
      clear hx HJ_x8 HH8_x8
      go_upto_region 6 with (fail)
      go_cut [10] (fun s10 wx => ∃ B : Nat, s10 = .pointer (some ⟨B, 0, none⟩) ∧ Aside0 (Below x9.heap.size x9 wx ∧ HeldT wx B (catT [.mk k0 m0 l0 hh0 r0 s0, .mk k1 m1 l1 hh1 r1 s1, .mk k2 m2 l2 hh2 r2 s2])))
      case first =>
        have z0 := HJ_x9.out.n0
        have n00 := cell_heap (i := 0) z0 rfl
        have n01 := cell_heap (i := 1) z0 rfl
        have n02 := cell_heap (i := 2) z0 rfl
        have n03 := cell_heap (i := 3) z0 rfl
        have n04 := cell_heap (i := 4) z0 rfl
        have n05 := cell_heap (i := 5) z0 rfl
        clear z0
        have z1 := HJ_x9.out.n1
        have n10 := cell_heap (i := 0) z1 rfl
        have n11 := cell_heap (i := 1) z1 rfl
        have n12 := cell_heap (i := 2) z1 rfl
        have n13 := cell_heap (i := 3) z1 rfl
        have n14 := cell_heap (i := 4) z1 rfl
        have n15 := cell_heap (i := 5) z1 rfl
        clear z1
        have z2 := HJ_x9.out.n2
        have n20 := cell_heap (i := 0) z2 rfl
        have n21 := cell_heap (i := 1) z2 rfl
        have n22 := cell_heap (i := 2) z2 rfl
        have n23 := cell_heap (i := 3) z2 rfl
        have n24 := cell_heap (i := 4) z2 rfl
        have n25 := cell_heap (i := 5) z2 rfl
        clear z2
        obtain ⟨X, hX⟩ : ∃ X, X = x9.alloc (.cells #[.int .i64 k0, .int .i64 m0, .int .i64 l0, .int .i64 hh0, .slice ar0 r0.length cr0, .slice ak0 s0.length ck0, .int .i64 k1, .int .i64 m1, .int .i64 l1, .int .i64 hh1, .slice ar1 r1.length cr1, .slice ak1 s1.length ck1, .int .i64 k2, .int .i64 m2, .int .i64 l2, .int .i64 hh2, .slice ar2 r2.length cr2, .slice ak2 s2.length ck2] 44) := ⟨_, rfl⟩
        have hbX : Below x9.heap.size x9 X := by rw [hX]; exact (Below.refl _ x9).alloc (Nat.le_refl _) _
        have hzX : X.heap[x9.heap.size]? = some (.cells #[.int .i64 k0, .int .i64 m0, .int .i64 l0, .int .i64 hh0, .slice ar0 r0.length cr0, .slice ak0 s0.length ck0, .int .i64 k1, .int .i64 m1, .int .i64 l1, .int .i64 hh1, .slice ar1 r1.length cr1, .slice ak1 s1.length ck1, .int .i64 k2, .int .i64 m2, .int .i64 l2, .int .i64 hh2, .slice ar2 r2.length cr2, .slice ak2 s2.length ck2] 44 (0, 0)) := by rw [hX]; exact World.alloc_heap_new x9 _
        have hc := cat_of3 X _ (.mk k0 m0 l0 hh0 r0 s0) (.mk k1 m1 l1 hh1 r1 s1) (.mk k2 m2 l2 hh2 r2 s2) [.int .i64 k0, .int .i64 m0, .int .i64 l0, .int .i64 hh0, .slice ar0 r0.length cr0, .slice ak0 s0.length ck0] [.int .i64 k1, .int .i64 m1, .int .i64 l1, .int .i64 hh1, .slice ar1 r1.length cr1, .slice ak1 s1.length ck1] [.int .i64 k2, .int .i64 m2, .int .i64 l2, .int .i64 hh2, .slice ar2 r2.length cr2, .slice ak2 s2.length ck2] hzX ((G0.out.move (fun b hb => (hbX.block b (Nat.lt_of_lt_of_le hb HJ_x9.out.bel.size)).trans (HJ_x9.out.bel.block b hb))).mono (fun b hb => Nat.lt_of_lt_of_le hb (Nat.le_trans HJ_x9.out.bel.size hbX.size))) ((G1.out.move (fun b hb => (hbX.block b (Nat.lt_of_lt_of_le hb HJ_x9.out.bel.size)).trans (HJ_x9.out.bel.block b hb))).mono (fun b hb => Nat.lt_of_lt_of_le hb (Nat.le_trans HJ_x9.out.bel.size hbX.size))) ((G2.out.move (fun b hb => (hbX.block b (Nat.lt_of_lt_of_le hb HJ_x9.out.bel.size)).trans (HJ_x9.out.bel.block b hb))).mono (fun b hb => Nat.lt_of_lt_of_le hb (Nat.le_trans HJ_x9.out.bel.size hbX.size))) (by have hnd := HND.out; omega)
        rw [hX] at hc
        have HC := Lib.hid hc
        have HX := Lib.hid hX
        have HBX := Lib.hid hbX
        clear hc hX hbX hzX
        go_wp2_with fail
        refine HC.out.mono ?_
        rintro e w9 ⟨v0, v1, v2, v3, va, vb, v4, v5, v6, v7, rfl, hN9, hB9⟩
        rw [← HX.out] at hN9 hB9
        have HN9 := Lib.hid (HeldT.new (hN9.mono (fun b hb => hb.2)))
        have HB9 := Lib.hid ((HBX.out.trans (hB9.mono HBX.out.size)).alloc (HBX.out.trans (hB9.mono HBX.out.size)).size (.cells #[.int .i64 v0, .int .i64 v1, .int .i64 v2, .int .i64 v3, .slice va v4 v5, .slice vb v6 v7] 44))
        clear hN9 hB9 HC HX HBX n00 n01 n02 n03 n04 n05 n10 n11 n12 n13 n14 n15 n20 n21 n22 n23 n24 n25
        go_wp2_with fail
        go_meet
        exact ⟨_, rfl, ⟨HB9.out, HN9.out⟩⟩
      case rest =>
        obtain ⟨B10, rfl, hx⟩ := hcut
        obtain ⟨x10, rfl⟩ : ∃ x : World, x = wc := ⟨_, rfl⟩
        have HJ_x10 := Lib.hid (HJ_x9.out.below hx.out.1)
        have HH8_x10 := Lib.hid (HH8_x9.out.below hx.out.1)
        have HH9_x10 := Lib.hid (HH9_x9.out.below hx.out.1)
        have HH10_x10 := Lib.hid hx.out.2
        clear hx HJ_x9 HH8_x9 HH9_x9
        refine (show ∀ (a : Act) (w' : World), Code.wp Try.prog joinsRest (bodyPost Try.prog Try.f12 (fun e w' => e = .returned (.bool true) ∧ Below w.heap.size w w')) a w' → _ from by assumption) _ _ ?_
        exact joins_tail k0 m0 l0 hh0 k1 m1 l1 hh1 k2 m2 l2 hh2 r0 r1 r2 s0 s1 s2 ar0 ak0 ar1 ak1 ar2 ak2 cr0 ck0 cr1 ck1 cr2 ck2 w (And.intro G0.out (And.intro G1.out G2.out)) HND.out x10 B8 B9 B10 _ _ _ _ _ _ _ _ _ _ _ _ _ _ _ _ _ _ _ _ _ _ _ _ _ _ _ _ _ _ _ _ _ _ _ _ _ _ _ _ _ _ _ _ _ _ _ _ _ _ _ _ _ _ _ _ _ _ _ _ _ _ _ _ _ _ _ _ _ _ _ _ _ _ _ _ _ _ _ _ _ _ _ _ _ _ _ _ _ _ _ _ _ _ _ _ _ _ _ _ _ _ _ _ _ _ _ _ _ _ _ _ _ _ _ _ _ _ _ _ _ _ _ _ _ HJ_x10.out HH8_x10.out HH9_x10.out HH10_x10.out

theorem joins_calls (a b c : NT) (ca cb cc : List Value) (w : World) (g0 : NIn w (· < w.heap.size) a ca) (g1 : NIn w (· < w.heap.size) b cb) (g2 : NIn w (· < w.heap.size) c cc) (h0 : a.nodes < 274877906944) (h1 : b.nodes < 274877906944) (h2 : c.nodes < 274877906944) :
    Calls Try.prog 12 #[.agg ca.toArray, .agg cb.toArray, .agg cc.toArray] w fun e w' => e = .returned (.bool true) ∧ Below w.heap.size w w' := by
  obtain ⟨k0, m0, l0, h0', r0, s0⟩ := a
  obtain ⟨k1, m1, l1, h1', r1, s1⟩ := b
  obtain ⟨k2, m2, l2, h2', r2, s2⟩ := c
  obtain ⟨ar0, ak0, cr0, ck0, rfl⟩ := NIn.shape g0
  obtain ⟨ar1, ak1, cr1, ck1, rfl⟩ := NIn.shape g1
  obtain ⟨ar2, ak2, cr2, ck2, rfl⟩ := NIn.shape g2
  by_cases hm : 1900 < countT (.mk k0 m0 l0 h0' r0 s0) + countT (.mk k1 m1 l1 h1' r1 s1) + countT (.mk k2 m2 l2 h2' r2 s2)
  · exact joins_many k0 m0 l0 h0' k1 m1 l1 h1' k2 m2 l2 h2' r0 r1 r2 s0 s1 s2 ar0 ak0 ar1 ak1 ar2 ak2 cr0 ck0 cr1 ck1 cr2 ck2 w g0 g1 g2 ⟨h0, h1, h2⟩ hm
  · exact joins_few k0 m0 l0 h0' k1 m1 l1 h1' k2 m2 l2 h2' r0 r1 r2 s0 s1 s2 ar0 ak0 ar1 ak1 ar2 ak2 cr0 ck0 cr1 ck1 cr2 ck2 w g0 g1 g2 ⟨h0, h1, h2⟩ hm
end Go.Proofs.Ytamhkdlcoghdbaa.PCls
