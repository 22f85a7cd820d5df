/- Out of Pq (wip/tools/prune2.py): the declarations alone that the texts of the trees name. -/
import Derived.Test.YtamhkdlcoghdbaaGreatDoorVMQNc
namespace Go.Proofs.YtamhkdlcoghdbaaGreatDoor.PCls
open Go.RowKit Go.Shelf Go.Proofs.YtamhkdlcoghdbaaGreatDoorW.PrintWords Go.Proofs.YtamhkdlcoghdbaaGreatDoorW.PrintLast Go.Proofs.YtamhkdlcoghdbaaGreatDoorW.PrintMore
set_option linter.unusedVariables false
set_option linter.unusedSimpArgs false
theorem nd_put {n0 : Nat} {W w : World} {t : NT} {fn : Func} {i g : Nat} {tmps : Array Value} (hr : fn.results = #[.cell i 43]) (hi : tmps.getD i undef = .pointer (some ⟨g, 0, none⟩)) {o0 o1 o2 o3 o4 o5 v0 v1 v2 v3 v4 v5 : Value} (h : w.heap[g]? = some (.cells #[o0, o1, o2, o3, o4, o5] 43 (0, 0))) (hg : W.heap.size ≤ g)
    (hN : NIn w (fun b => b ≠ g ∧ (b < n0 ∨ (W.heap.size ≤ b ∧ b < w.heap.size))) t [v0, v1, v2, v3, v4, v5]) (hb : Below W.heap.size W w) : bodyPost Tryz.prog fn (NdPost n0 W t) .ret ⟨tmps, []⟩ (put6 w g 0 v0 v1 v2 v3 v4 v5) := by
  refine bodyPost_ret (v := .agg #[v0, v1, v2, v3, v4, v5]) (ret6 hr hi (put6_res h v0 v1 v2 v3 v4 v5)) rfl ?_
  exact ⟨_, rfl, (hN.move (fun b hb => by rw [put6_other _ _ _ _ _ _ _ _ _ b hb.1])).mono (fun b hb => by rw [put6_size]; exact hb.2), put6_below hb hg _ _ _ _ _ _ _⟩
theorem nd_new {n0 : Nat} {W w : World} {t : NT} {fn : Func} {i g : Nat} {tmps : Array Value} (hr : fn.results = #[.cell i 43]) (hi : tmps.getD i undef = .pointer (some ⟨g, 0, none⟩)) {v0 v1 v2 v3 v4 v5 : Value} (h : w.heap[g]? = some (.cells #[v0, v1, v2, v3, v4, v5] 43 (0, 0)))
    (hN : NIn w (fun b => b < n0 ∨ (W.heap.size ≤ b ∧ b < w.heap.size)) t [v0, v1, v2, v3, v4, v5]) (hb : Below W.heap.size W w) : bodyPost Tryz.prog fn (NdPost n0 W t) .ret ⟨tmps, []⟩ w := by
  refine bodyPost_ret (v := .agg #[v0, v1, v2, v3, v4, v5]) (ret6 hr hi h) rfl ?_
  exact ⟨_, rfl, hN, hb⟩
set_option maxHeartbeats 4000000 in
set_option maxRecDepth 100000 in
theorem leaf_node (n0 : Nat) (t : NT) (cs : List Value) (w : World) (hw : n0 ≤ w.heap.size) (h : NIn w (· < n0) t cs) : Calls Tryz.prog 271 #[.agg cs.toArray] w (NdPost n0 w t) := by
  obtain ⟨kk, m, lo, hi', ar, ak, lr, cr, lk, ck, rfl⟩ := nin_six h
  have HN := Lib.hid h
  clear h
  go_enter Tryz.func271, Tryz.ntmps271
  go_wp2_with fail
  have hb := ((Below.refl w.heap.size w).alloc (Nat.le_refl _) (.cells #[.int .i64 kk, .int .i64 m, .int .i64 lo, .int .i64 hi', .slice ar lr cr, .slice ak lk ck] 159)).alloc (by simp) (.cells #[.int .i64 kk, .int .i64 m, .int .i64 lo, .int .i64 hi', .slice ar lr cr, .slice ak lk ck] 43)
  refine nd_new (g := w.heap.size + 1) rfl rfl (by have h := heap_alloc_new (w.alloc (.cells #[.int .i64 kk, .int .i64 m, .int .i64 lo, .int .i64 hi', .slice ar lr cr, .slice ak lk ck] 159)) (.cells #[.int .i64 kk, .int .i64 m, .int .i64 lo, .int .i64 hi', .slice ar lr cr, .slice ak lk ck] 43); simpa using h) ?_ hb
  exact (HN.out.move (fun b hb' => hb.block b (by omega))).mono (fun b hb' => .inl hb')
set_option maxHeartbeats 4000000 in
set_option maxRecDepth 100000 in
theorem branch_node (n0 : Nat) (l : List PT) (ih : ∀ p, p ∈ l → NodeOk n0 p) (hl : PT.nszL l < 100000) (b : Nat) (w : World) (hw : n0 ≤ w.heap.size) (h : PIn w (· < n0) (.branch l) (brV b)) : Calls Tryz.prog 269 #[.pointer (some ⟨b, 0, none⟩)] w (NdPost n0 w (PT.branch l).node) := by
  have hps := PT.nodesL_nsz l
  cases h with
  | branch _ _ A c vs hb h0 hc hr hp =>
    have hbl : b < w.heap.size := by omega
    have hll : l.length < 1000000 := by have := NT.nodesL_length (PT.nodes l); rw [PT.nodes_length] at this; omega
    have hbel := (Below.refl w.heap.size w).alloc (Nat.le_refl _) (.cells #[.int .i64 0, .int .i64 0, .int .i64 0, .int .i64 0, .slice none 0 0, .slice none 0 0] 43)
    have HC := Lib.hid (nodes_calls n0 l ih A c vs (w.alloc (.cells #[.int .i64 0, .int .i64 0, .int .i64 0, .int .i64 0, .slice none 0 0, .slice none 0 0] 43)) (Nat.le_trans hw hbel.size) hll (fun j hj => by
      obtain ⟨g, e, hg, hcell⟩ := hr j hj
      exact ⟨g, e, hg, (hbel.cell (p := ⟨g, j, none⟩) (by simp only; omega)).trans hcell⟩) (fun j p hj => (hp j p hj).keep (hbel.mono hw)))
    have HB := Lib.hid hbel
    have HS := Lib.hid hps
    clear hr hp hbel hps ih
    go_enter Tryz.func269, Tryz.ntmps269
    go_wp2_with fail
    refine HC.out.mono ?_
    rintro e w2 ⟨v, rfl, ht, hb2⟩
    obtain ⟨A2, c2, rfl⟩ := ht.form
    rw [PT.nodes_length]
    have HCC := Lib.hid (cat_calls A2 l.length c2 (PT.nodes l) w2 (PT.nodes_length l) (by have := HS.out; omega) (fun j t hj => by
      obtain ⟨g, cs, e, hg, hN, hcell⟩ := ht.at rfl j t hj
      refine ⟨⟨g, 0, none⟩, cs, e, hg, hN.mono (fun b hb => hb.2), fun i u hu => ?_⟩
      rw [show (⟨g, 0, none⟩ : Addr).add (j * 6 + i) = ⟨g, j * 6 + i, none⟩ by unfold Addr.add; split <;> simp_all]
      exact hcell i u hu))
    have HB2 := Lib.hid (HB.out.trans (hb2.mono HB.out.size))
    have hres := (hb2.block w.heap.size (by simp)).trans (heap_alloc_new w _)
    have HR := Lib.hid hres
    have hz2 : w.heap.size + 1 ≤ w2.heap.size := by have := hb2.size; simpa using this
    clear hres ht hb2 HC
    go_wp2_with fail
    refine HCC.out.mono ?_
    rintro e w3 ⟨cs, rfl, hN, hb3⟩
    obtain ⟨kk, m, lo, hi', ar, ak, lr, cr, lk, ck, rfl⟩ := nin_six hN
    have hres := (hb3.block w.heap.size (by omega)).trans HR.out
    have HF := Lib.hid (And.intro hN (And.intro hres (HB2.out.trans (hb3.mono HB2.out.size))))
    have hf : ∀ o, w3.frozen? ⟨w.heap.size, o, none⟩ = false := fun o => by simp [World.frozen?, hres]
    have hlt : w.heap.size < w3.heap.size := (Array.getElem?_eq_some_iff.1 hres).1
    have c0 := lk_cell (i := 0) hres rfl
    have c1 := lk_cell (i := 1) hres rfl
    have c2 := lk_cell (i := 2) hres rfl
    have c3 := lk_cell (i := 3) hres rfl
    have c4 := lk_cell (i := 4) hres rfl
    have c5 := lk_cell (i := 5) hres rfl
    clear hN hb3 hres HCC HR
    go_wp2_with fail
    refine nd_put (g := w.heap.size) rfl rfl HF.out.2.1 (Nat.le_refl _) ?_ HF.out.2.2
    exact HF.out.1.mono (fun b hb => ⟨by omega, .inr ⟨by have := HB2.out.size; omega, hb.2⟩⟩)
set_option maxHeartbeats 4000000 in
set_option maxRecDepth 100000 in
theorem choice_node (n0 n1 : Nat) (l : List PT) (ih : ∀ p, p ∈ l → NodeOk n0 p) (hl : PT.nszL l < 100000) (b : Nat) (w : World) (hw : n0 ≤ w.heap.size) (h : PIn w (· < n0) (.choice l) (chV b)) : Calls Tryz.prog 53 #[.pointer (some ⟨b, 2, none⟩)] w (NdPost n1 w (PT.choice l).node) := by
  have hps := PT.nodesL_nsz l
  cases h with
  | choice _ _ A c vs hb h0 hc hr hp =>
    have hbl : b < w.heap.size := by omega
    have hll : l.length < 1000000 := by have := NT.nodesL_length (PT.nodes l); rw [PT.nodes_length] at this; omega
    have hbel := (Below.refl w.heap.size w).alloc (Nat.le_refl _) (.cells #[.int .i64 0, .int .i64 0, .int .i64 0, .int .i64 0, .slice none 0 0, .slice none 0 0] 43)
    have HC := Lib.hid (nodes_calls n0 l ih A c vs (w.alloc (.cells #[.int .i64 0, .int .i64 0, .int .i64 0, .int .i64 0, .slice none 0 0, .slice none 0 0] 43)) (Nat.le_trans hw hbel.size) hll (fun j hj => by
      obtain ⟨g, e, hg, hcell⟩ := hr j hj
      exact ⟨g, e, hg, (hbel.cell (p := ⟨g, j, none⟩) (by simp only; omega)).trans hcell⟩) (fun j p hj => (hp j p hj).keep (hbel.mono hw)))
    have HB := Lib.hid hbel
    have HS := Lib.hid hps
    clear hr hp hbel hps ih
    go_enter Tryz.func53, Tryz.ntmps53
    go_wp2_with fail
    refine HC.out.mono ?_
    rintro e w2 ⟨v, rfl, ht, hb2⟩
    obtain ⟨A2, c2, rfl⟩ := ht.form
    rw [PT.nodes_length]
    have HCC := Lib.hid (alt_calls A2 l.length c2 (PT.nodes l) w2 (PT.nodes_length l) (by have := HS.out; omega) (fun j t hj => by
      obtain ⟨g, cs, e, hg, hN, hcell⟩ := ht.at rfl j t hj
      refine ⟨⟨g, 0, none⟩, cs, e, hg, hN.mono (fun b hb => hb.2), fun i u hu => ?_⟩
      rw [show (⟨g, 0, none⟩ : Addr).add (j * 6 + i) = ⟨g, j * 6 + i, none⟩ by unfold Addr.add; split <;> simp_all]
      exact hcell i u hu))
    have HB2 := Lib.hid (HB.out.trans (hb2.mono HB.out.size))
    have hres := (hb2.block w.heap.size (by simp)).trans (heap_alloc_new w _)
    have HR := Lib.hid hres
    have hz2 : w.heap.size + 1 ≤ w2.heap.size := by have := hb2.size; simpa using this
    clear hres ht hb2 HC
    go_wp2_with fail
    refine HCC.out.mono ?_
    rintro e w3 ⟨cs, rfl, hN, hb3⟩
    obtain ⟨kk, m, lo, hi', ar, ak, lr, cr, lk, ck, rfl⟩ := nin_six hN
    have hres := (hb3.block w.heap.size (by omega)).trans HR.out
    have HF := Lib.hid (And.intro hN (And.intro hres (HB2.out.trans (hb3.mono HB2.out.size))))
    have hf : ∀ o, w3.frozen? ⟨w.heap.size, o, none⟩ = false := fun o => by simp [World.frozen?, hres]
    have hlt : w.heap.size < w3.heap.size := (Array.getElem?_eq_some_iff.1 hres).1
    have c0 := lk_cell (i := 0) hres rfl
    have c1 := lk_cell (i := 1) hres rfl
    have c2 := lk_cell (i := 2) hres rfl
    have c3 := lk_cell (i := 3) hres rfl
    have c4 := lk_cell (i := 4) hres rfl
    have c5 := lk_cell (i := 5) hres rfl
    clear hN hb3 hres HCC HR
    go_wp2_with fail
    refine nd_put (g := w.heap.size) rfl rfl HF.out.2.1 (Nat.le_refl _) ?_ HF.out.2.2
    exact HF.out.1.mono (fun b hb => ⟨by omega, .inr ⟨by have := HB2.out.size; omega, hb.2⟩⟩)
section
variable {ops : Array Oper} {Q : Exit → Act → World → Prop} {S : World → Prop} {r : List Stg} {i : Nat} {N : Option Tmp} {op : Op} {ty : TypeId} {ps : String} {af : Array Edge} {gd : Option (Nat × Bool)} {a : Act} {w : World}
/-- A call, by its run. -/
theorem go_callI {f : FuncId} {args : Array Value} {R : Ending → World → Prop} (hi : ops[i]? = some ⟨N, op, ty, ps, af, gd⟩) (hw : Region.wanted ⟨N, op, ty, ps, af, gd⟩ (yielded ops a.tmps) = true) (hrun : (execOp a.eval ⟨N, op, ty, ps, af, gd⟩).run Tryz.prog w = .ok (.enter f args) w) (hcall : Calls Tryz.prog f args w R)
    (h : ∀ e w', R e w' → ∃ v b, e = .returned v ∧ S w' ∧ a.put N v = b ∧ Go Tryz.prog ops Q S r b w') : Go Tryz.prog ops Q S (.o i :: r) a w := by
  refine ⟨_, hi, fun K hK => ?_⟩
  rw [if_pos hw]
  unfold Oper.wp
  rw [hrun, Oper.upon_enter]
  refine hcall.mono fun e w' hR => ?_
  obtain ⟨v, b, rfl, hS, hp, hk⟩ := h e w' hR
  subst hp
  exact hK.out _ _ hS fun _ => hk
end
/-- one tree's row, as the kids of a node -/
theorem nin_one {w : World} {P : Nat → Prop} {t : NT} {cs : List Value} {g : Nat} (k m lo hi : Int) (hN : NIn w P t cs) (hg : P g) (hc : ∀ i u, cs[i]? = some u → w.cell? ⟨g, i, none⟩ = some u) : NIn w P (.mk k m lo hi [] [t]) [.int .i64 k, .int .i64 m, .int .i64 lo, .int .i64 hi, .slice none 0 0, .slice (some ⟨g, 0, none⟩) 1 1] := by
  refine NIn.mk k m lo hi [] [t] none (some ⟨g, 0, none⟩) 0 1 (fun _ => cs) ⟨rfl, by simp, fun h => by simp at h⟩ (fun ad e => by cases e) (by simp) (by simp) rfl (by simp) (by simp) (fun j t' h => ?_) (fun j hj => ⟨⟨g, 0, none⟩, rfl, hg, fun i u hu => ?_⟩)
  · match j, h with
    | 0, h => cases h; exact hN
    | j + 1, h => simp at h
  · have : j = 0 := by simpa using hj
    subst this
    rw [show (⟨g, 0, none⟩ : Addr).add (0 * 6 + i) = ⟨g, i, none⟩ by rw [Nat.zero_mul, Nat.zero_add]; unfold Addr.add; split <;> simp_all]
    exact hc i u hu
set_option maxHeartbeats 4000000 in
set_option maxRecDepth 100000 in
theorem group_node (n0 : Nat) (n pl : Int) (ch : PT) (g : Nat) (w : World) (hw : n0 ≤ w.heap.size) (hg : g < n0) (h0 : w.cell? ⟨g, 0, none⟩ = some (.int .i64 n))
    (ih : ∀ w' : World, Below w.heap.size w w' → Calls Tryz.prog 53 #[.pointer (some ⟨g, 2, none⟩)] w' (NdPost n0 w' ch.node)) : Calls Tryz.prog 267 #[.pointer (some ⟨g, 0, none⟩)] w (NdPost n0 w (PT.group n pl ch).node) := by
  have hgl : g < w.heap.size := by omega
  obtain ⟨W2, hW2⟩ : ∃ X, X = w.alloc (.cells #[.int .i64 0, .int .i64 0, .int .i64 0, .int .i64 0, .slice none 0 0, .slice none 0 0] 43) := ⟨_, rfl⟩
  have hb2 : Below w.heap.size w W2 := by rw [hW2]; exact (Below.refl w.heap.size w).alloc (Nat.le_refl _) _
  have hz2 : W2.heap.size = w.heap.size + 1 := by rw [hW2]; simp
  have hres : W2.heap[w.heap.size]? = some (.cells #[.int .i64 0, .int .i64 0, .int .i64 0, .int .i64 0, .slice none 0 0, .slice none 0 0] 43 (0, 0)) := by rw [hW2]; exact heap_alloc_new _ _
  have h0' : W2.cell? ⟨g, 0, none⟩ = some (.int .i64 n) := (hb2.cell (p := ⟨g, 0, none⟩) hgl).trans h0
  have hgl2 : g < W2.heap.size := by omega
  have HI := Lib.hid ih
  have HB := Lib.hid (And.intro hb2 (And.intro hres hz2))
  have HW2 := Lib.hid hW2
  clear ih h0 hb2 hres hz2 hW2
  go_enter Tryz.func267, Tryz.ntmps267
  go_wp2_with fail
  rw [← HW2.out]
  refine go_start (fun w' => Below W2.heap.size W2 w') [10] [.p 0, .p 1, .p 2, .p 4, .p 5, .p 6, .t 3, .o 7, .o 8, .p 9, .z 10] (by kernel_rfl) (by kernel_rfl) (fun c d v a w h => by cases d <;> exact h) ((Below.refl _ W2).drew) (fun w3 hS3 => ?_)
  repeat first
  | refine go_p (v := ?_) (b := ?_) rfl (.inl ⟨by rfl, ?_⟩) ?_ ?_
    rotate_left 2
    · intro w'; go_simp; with_reducible rfl
    · simp only [Act.put, pu_, pz_, ps_, i64_w, i32_w]; rfl
  | refine go_t (v := ?_) (b := ?_) rfl (.inl ⟨by rfl, ?_⟩) ?_ ?_
    rotate_left 2
    · intro w' hS; have hc := Below.cells hS; go_simp; with_reducible rfl
    · simp only [Act.put, pu_, pz_, ps_, i64_w, i32_w]; rfl
  refine go_call rfl (by rfl) Tryz.func53 (by kernel_rfl) rfl (by simp only [List.map_toArray, List.map_cons, List.map_nil]; rfl) (HI.out w3 (HB.out.1.trans (hS3.mono HB.out.1.size))) ?_
  rintro e w4 ⟨cs, rfl, hN, hb4⟩
  obtain ⟨kk, m, lo, hi', ar, ak, lr, cr, lk, ck, rfl⟩ := nin_six hN
  have hS4 : Below W2.heap.size W2 w4 := hS3.trans (hb4.mono hS3.size)
  refine ⟨_, _, rfl, hS4, (by simp only [Act.put, List.setIfInBounds_toArray, List.set_cons_zero, List.set_cons_succ]; rfl), ?_⟩
  obtain ⟨w5, hw5⟩ : ∃ X, X = w4.alloc (.cells #[.int .i64 kk, .int .i64 m, .int .i64 lo, .int .i64 hi', .slice ar lr cr, .slice ak lk ck] 43) := ⟨_, rfl⟩
  have hS5 : Below W2.heap.size W2 w5 := by rw [hw5]; exact hS4.alloc hS4.size _
  refine go_val (v := .slice (some ⟨w4.heap.size, 0, none⟩) 1 1) (w1 := w5) rfl (by rfl) (by rw [hw5]; go_simp; first | done | rfl) (by simp only [Act.put, List.setIfInBounds_toArray, List.set_cons_zero, List.set_cons_succ]; rfl) hS5 ?_
  have HW5 := Lib.hid hw5
  clear hw5
  refine go_p (v := ?_) (b := ?_) rfl (.inl ⟨by rfl, ?_⟩) ?_ ?_
  rotate_left 2
  · intro w'; go_simp; with_reducible rfl
  · simp only [Act.put, pu_, pz_, ps_, i64_w, i32_w]; rfl
  have hr5 := (hS5.block w.heap.size (by have := HB.out.2.2; omega)).trans HB.out.2.1
  have c0 := lk_cell (i := 0) hr5 rfl
  have c1 := lk_cell (i := 1) hr5 rfl
  have c2 := lk_cell (i := 2) hr5 rfl
  have c3 := lk_cell (i := 3) hr5 rfl
  have c4 := lk_cell (i := 4) hr5 rfl
  have c5 := lk_cell (i := 5) hr5 rfl
  have hf : ∀ o, w5.frozen? ⟨w.heap.size, o, none⟩ = false := fun o => by simp [World.frozen?, hr5]
  have hlt : w.heap.size < w5.heap.size := (Array.getElem?_eq_some_iff.1 hr5).1
  refine go_skipz (w1 := put6 w5 w.heap.size 0 (.int .i64 7) (.int .i64 n) (.int .i64 0) (.int .i64 0) (.slice none 0 0) (.slice (some ⟨w4.heap.size, 0, none⟩) 1 1)) rfl (by rfl) (by unfold put6; go_simp; first | done | rfl) ?_
  refine go_done ?_
  have hz5 : w5.heap.size = w4.heap.size + 1 := by rw [HW5.out]; simp
  have hs43 := hb4.size
  have hs32 := hS3.size
  have hz2 := HB.out.2.2
  have hN5 : NIn w5 (fun b => b ≠ w.heap.size ∧ (b < n0 ∨ (w.heap.size ≤ b ∧ b < w5.heap.size))) (PT.group n pl ch).node [.int .i64 7, .int .i64 n, .int .i64 0, .int .i64 0, .slice none 0 0, .slice (some ⟨w4.heap.size, 0, none⟩) 1 1] := by
    refine nin_one 7 n 0 0 ((hN.move (w' := w5) (fun b hb => by rw [HW5.out]; exact heap_alloc_old _ _ (by rcases hb with hb | hb <;> omega))).mono (fun b hb => ⟨by rcases hb with hb | hb <;> omega, by rcases hb with hb | hb <;> omega⟩)) ⟨by omega, .inr ⟨by omega, by omega⟩⟩ (fun i u hu => ?_)
    rw [HW5.out]
    exact lk_cell (heap_alloc_new w4 _) (by simpa using hu)
  have HF := Lib.hid (And.intro hr5 (And.intro hN5 (HB.out.1.trans (hS5.mono HB.out.1.size))))
  clear hr5 hN5 hN hb4 hS3 hS4 hS5 c0 c1 c2 c3 c4 c5 hf
  go_wp2_with fail
  exact nd_put (g := w.heap.size) rfl rfl HF.out.1 (Nat.le_refl _) HF.out.2.1 HF.out.2.2
set_option maxHeartbeats 4000000 in
set_option maxRecDepth 100000 in
theorem often_node (n0 : Nat) (p : PT) (lo hi : Int) (ty : TypeId) (x : Value) (w : World) (hw : n0 ≤ w.heap.size)
    (ih : ∀ w' : World, Below w.heap.size w w' → ∃ (f : FuncId) (args : Array Value), (∀ w', (invoke (.fn (.method "dredge/parse.node") #[]) #[.iface ty x]).run Tryz.prog w' = .ok (.enter f args) w') ∧ Calls Tryz.prog f args w' (NdPost n0 w' p.node)) :
    Calls Tryz.prog 270 #[.agg #[.iface ty x, .int .i64 lo, .int .i64 hi]] w (NdPost n0 w (PT.often p lo hi).node) := by
  obtain ⟨W1, hW1⟩ : ∃ X, X = w.alloc (.cells #[.iface ty x, .int .i64 lo, .int .i64 hi] 157) := ⟨_, rfl⟩
  obtain ⟨W2, hW2⟩ : ∃ X, X = W1.alloc (.cells #[.int .i64 0, .int .i64 0, .int .i64 0, .int .i64 0, .slice none 0 0, .slice none 0 0] 43) := ⟨_, rfl⟩
  have hb1 : Below w.heap.size w W1 := by rw [hW1]; exact (Below.refl w.heap.size w).alloc (Nat.le_refl _) _
  have hz1 : W1.heap.size = w.heap.size + 1 := by rw [hW1]; simp
  have hb2 : Below w.heap.size w W2 := by rw [hW2]; exact hb1.alloc hb1.size _
  have hz2 : W2.heap.size = w.heap.size + 2 := by rw [hW2]; simp; omega
  have hbox : W2.heap[w.heap.size]? = some (.cells #[.iface ty x, .int .i64 lo, .int .i64 hi] 157 (0, 0)) := by rw [hW2, heap_alloc_old _ _ (by omega), hW1]; exact heap_alloc_new _ _
  have hres : W2.heap[w.heap.size + 1]? = some (.cells #[.int .i64 0, .int .i64 0, .int .i64 0, .int .i64 0, .slice none 0 0, .slice none 0 0] 43 (0, 0)) := by rw [hW2, ← hz1]; exact heap_alloc_new _ _
  have b0 := lk_cell (i := 0) hbox rfl
  have b1 := lk_cell (i := 1) hbox rfl
  have b2 := lk_cell (i := 2) hbox rfl
  have hgl2 : w.heap.size < W2.heap.size := by omega
  have HI := Lib.hid ih
  have HB := Lib.hid (And.intro hb2 (And.intro hres hz2))
  have HW2 := Lib.hid (show W2 = (w.alloc (.cells #[.iface ty x, .int .i64 lo, .int .i64 hi] 157)).alloc (.cells #[.int .i64 0, .int .i64 0, .int .i64 0, .int .i64 0, .slice none 0 0, .slice none 0 0] 43) by rw [hW2, hW1])
  clear ih hb1 hb2 hres hz2 hW2 hW1 hz1 hbox
  go_enter Tryz.func270, Tryz.ntmps270
  go_wp2_with fail
  rw [← HW2.out]
  refine go_start (fun w' => Below W2.heap.size W2 w') [9] [.p 0, .p 2, .p 4, .t 1, .t 3, .t 5, .o 6, .o 7, .p 8, .z 9] (by kernel_rfl) (by kernel_rfl) (fun c d v a w h => by cases d <;> exact h) ((Below.refl _ W2).drew) (fun w3 hS3 => ?_)
  repeat first
  | refine go_p (v := ?_) (b := ?_) rfl (.inl ⟨by rfl, ?_⟩) ?_ ?_
    rotate_left 2
    · intro w'; go_simp; with_reducible rfl
    · simp only [Act.put, pu_, pz_, ps_, i64_w, i32_w]; rfl
  | refine go_t (v := ?_) (b := ?_) rfl (.inl ⟨by rfl, ?_⟩) ?_ ?_
    rotate_left 2
    · intro w' hS; have hc := Below.cells hS; go_simp; with_reducible rfl
    · simp only [Act.put, pu_, pz_, ps_, i64_w, i32_w]; rfl
  obtain ⟨f, args, hinv, hcall⟩ := HI.out w3 (HB.out.1.trans (hS3.mono HB.out.1.size))
  refine go_callI rfl (by rfl) (invoke_run rfl (hinv w3)) hcall ?_
  rintro e w4 ⟨cs, rfl, hN, hb4⟩
  obtain ⟨kk, m, lo', hi', ar, ak, lr, cr, lk, ck, rfl⟩ := nin_six hN
  clear hinv hcall
  have hS4 : Below W2.heap.size W2 w4 := hS3.trans (hb4.mono hS3.size)
  refine ⟨_, _, rfl, hS4, (by simp only [Act.put, List.setIfInBounds_toArray, List.set_cons_zero, List.set_cons_succ]; rfl), ?_⟩
  obtain ⟨w5, hw5⟩ : ∃ X, X = w4.alloc (.cells #[.int .i64 kk, .int .i64 m, .int .i64 lo', .int .i64 hi', .slice ar lr cr, .slice ak lk ck] 43) := ⟨_, rfl⟩
  have hS5 : Below W2.heap.size W2 w5 := by rw [hw5]; exact hS4.alloc hS4.size _
  refine go_val (v := .slice (some ⟨w4.heap.size, 0, none⟩) 1 1) (w1 := w5) rfl (by rfl) (by rw [hw5]; go_simp; first | done | rfl) (by simp only [Act.put, List.setIfInBounds_toArray, List.set_cons_zero, List.set_cons_succ]; rfl) hS5 ?_
  have HW5 := Lib.hid hw5
  clear hw5
  refine go_p (v := ?_) (b := ?_) rfl (.inl ⟨by rfl, ?_⟩) ?_ ?_
  rotate_left 2
  · intro w'; go_simp; with_reducible rfl
  · simp only [Act.put, pu_, pz_, ps_, i64_w, i32_w]; rfl
  have hr5 := (hS5.block (w.heap.size + 1) (by have := HB.out.2.2; omega)).trans HB.out.2.1
  have c0 := lk_cell (i := 0) hr5 rfl
  have c1 := lk_cell (i := 1) hr5 rfl
  have c2 := lk_cell (i := 2) hr5 rfl
  have c3 := lk_cell (i := 3) hr5 rfl
  have c4 := lk_cell (i := 4) hr5 rfl
  have c5 := lk_cell (i := 5) hr5 rfl
  have hf : ∀ o, w5.frozen? ⟨w.heap.size + 1, o, none⟩ = false := fun o => by simp [World.frozen?, hr5]
  have hlt : w.heap.size + 1 < w5.heap.size := (Array.getElem?_eq_some_iff.1 hr5).1
  refine go_skipz (w1 := put6 w5 (w.heap.size + 1) 0 (.int .i64 9) (.int .i64 0) (.int .i64 lo) (.int .i64 hi) (.slice none 0 0) (.slice (some ⟨w4.heap.size, 0, none⟩) 1 1)) rfl (by rfl) (by unfold put6; go_simp; first | done | rfl) ?_
  refine go_done ?_
  have hz5 : w5.heap.size = w4.heap.size + 1 := by rw [HW5.out]; simp
  have hs43 := hb4.size
  have hs32 := hS3.size
  have hz2 := HB.out.2.2
  have hN5 : NIn w5 (fun b => b ≠ w.heap.size + 1 ∧ (b < n0 ∨ (w.heap.size ≤ b ∧ b < w5.heap.size))) (PT.often p lo hi).node [.int .i64 9, .int .i64 0, .int .i64 lo, .int .i64 hi, .slice none 0 0, .slice (some ⟨w4.heap.size, 0, none⟩) 1 1] := by
    refine nin_one 9 0 lo hi ((hN.move (w' := w5) (fun b hb => by rw [HW5.out]; exact heap_alloc_old _ _ (by rcases hb with hb | hb <;> omega))).mono (fun b hb => ⟨by rcases hb with hb | hb <;> omega, by rcases hb with hb | hb <;> omega⟩)) ⟨by omega, .inr ⟨by omega, by omega⟩⟩ (fun i u hu => ?_)
    rw [HW5.out]
    exact lk_cell (heap_alloc_new w4 _) (by simpa using hu)
  have HF := Lib.hid (And.intro hr5 (And.intro hN5 (HB.out.1.trans (hS5.mono HB.out.1.size))))
  clear hr5 hN5 hN hb4 hS3 hS4 hS5 c0 c1 c2 c3 c4 c5 hf
  go_wp2_with fail
  exact nd_put (g := w.heap.size + 1) rfl rfl HF.out.1 (Nat.le_succ _) HF.out.2.1 HF.out.2.2
theorem node_ok (n0 : Nat) (p : PT) : PT.nsz p < 100000 → NodeOk n0 p := by
  refine PT.ind (P := fun p => PT.nsz p < 100000 → NodeOk n0 p) ?_ ?_ ?_ ?_ ?_ p
  · intro t _ v w hw hin
    cases hin with
    | leaf _ cs h => exact ⟨271, _, inv_leaf _, leaf_node n0 t cs w hw h⟩
  · intro p lo hi ih hs v w hw hin
    cases hin with
    | often _ _ _ u h =>
      simp only [PT.nsz] at hs
      obtain ⟨ty, x, rfl⟩ := h.form
      exact ⟨270, _, inv_often _, often_node n0 p lo hi ty x w hw (fun w' hb => ih (by omega) _ w' (Nat.le_trans hw hb.size) (h.keep (hb.mono hw)))⟩
  · intro n pl ch ih hs v w hw hin
    cases hin with
    | group _ _ _ g hg h0 h1 h =>
      simp only [PT.nsz] at hs
      refine ⟨267, _, inv_group _, group_node n0 n pl ch g w hw hg h0 (fun w' hb => ?_)⟩
      obtain ⟨f, args, h1, h2⟩ := ih (by omega) _ w' (Nat.le_trans hw hb.size) (h.keep (hb.mono hw))
      have h3 := h1 w'
      unfold chV at h3
      rw [inv_choice] at h3
      simp only [Result.ok.injEq, Next.enter.injEq] at h3
      obtain ⟨⟨rfl, rfl⟩, _⟩ := h3
      exact h2
  · intro l ih hs v w hw hin
    simp only [PT.nsz] at hs
    have h' : ∀ p, p ∈ l → NodeOk n0 p := fun p hp => ih p hp (by have := PT.nsz_mem hp; omega)
    cases hin with
    | branch _ b A c vs hb h0 hc hr h => exact ⟨269, _, inv_branch _, branch_node n0 l h' (by omega) b w hw (.branch l b A c vs hb h0 hc hr h)⟩
  · intro l ih hs v w hw hin
    simp only [PT.nsz] at hs
    have h' : ∀ p, p ∈ l → NodeOk n0 p := fun p hp => ih p hp (by have := PT.nsz_mem hp; omega)
    cases hin with
    | choice _ b A c vs hb h0 hc hr h => exact ⟨53, _, inv_choice _, choice_node n0 n0 l h' (by omega) b w hw (.choice l b A c vs hb h0 hc hr h)⟩
end Go.Proofs.YtamhkdlcoghdbaaGreatDoor.PCls
