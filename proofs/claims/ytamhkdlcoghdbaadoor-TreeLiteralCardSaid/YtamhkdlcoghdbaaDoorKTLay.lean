/- Out of TLay (wip/tools/prune2.py): the declarations alone that the texts of the trees name. -/
import Derived.Test.YtamhkdlcoghdbaaDoorKTLay0
import Derived.Test.YtamhkdlcoghdbaaDoorKTEx
namespace Go.Proofs.YtamhkdlcoghdbaaDoor.PCls
open Go.RowKit Go.Shelf Go.Proofs.YtamhkdlcoghdbaaDoorW.PrintWords Go.Proofs.YtamhkdlcoghdbaaDoorW.PrintLast Go.Proofs.YtamhkdlcoghdbaaDoorW.PrintMore
set_option linter.unusedVariables false
set_option linter.unusedSimpArgs false
attribute [local go_sem] Oper.semAt_some
/-- between two rounds of lay's loop -/
structure LaySt (W wr : World) (most base n0 : Nat) (v vj : Value) (s : Step) (cs : List Value) (L L' : List Pl) (B3 j : Nat) : Prop where
 box : wr.heap[W.heap.size]? = some (.cells (cs ++ tailC s 0).toArray 79 (0, 0))
 node : wr.heap[B3]? = some (.cells cs.toArray 28 (0, 0))
 plc : Plc wr base n0 vj (L ++ ⟨s, 0, cs⟩ :: L')
 two : layK most s 0 (L.length + 1) = L'.map Pl.two ++ layK most s j (L.length + 1 + L'.length)
 grown : W.grownBy wr v.ownBlock
 own : ∀ q, vj.ownBlock = some q → v.ownBlock = some q ∨ (W.heap.size + 2 ≤ q ∧ q ≠ B3)
 sz : W.heap.size + 2 ≤ B3 ∧ B3 < wr.heap.size
 size : L.length + 1 + L'.length ≤ most
/-- what lay gives -/
def LayPost (W : World) (base n0 most : Nat) (v : Value) (s : Step) (L : List Pl) (e : Ending) (w' : World) : Prop := ∃ (v' : Value) (L' : List Pl), e = .returned v' ∧ Plc w' base n0 v' (L ++ L') ∧ L'.map Pl.two = layS most s L.length ∧ W.grownBy w' v.ownBlock ∧ (v'.ownBlock = v.ownBlock ∨ ∀ q, v'.ownBlock = some q → W.heap.size ≤ q)
/-- a list of places grows, and what is made besides: told of the blocks -/
theorem LaySt.next {W wr Y Z : World} {most base n0 : Nat} {v vj vz : Value} {s : Step} {cs : List Value} {L L' L2 : List Pl} {B3 j : Nat} (h : LaySt W wr most base n0 v vj s cs L L' B3 j) (hvl : ∀ q, v.ownBlock = some q → base ≤ q ∧ q < W.heap.size) (hn0 : n0 ≤ base) (hbw : base ≤ W.heap.size) {t : NT} (ht : s.n.kids[j]? = some t)
  (hY : Below wr.heap.size wr Y) (hp : Plc Z base n0 vz ((L ++ ⟨s, 0, cs⟩ :: L') ++ L2)) (h2 : L2.map Pl.two = layS most (s.kid j t) (L ++ ⟨s, 0, cs⟩ :: L').length) (hg : Y.grownBy Z vj.ownBlock) (ho : vz.ownBlock = vj.ownBlock ∨ ∀ q, vz.ownBlock = some q → Y.heap.size ≤ q) : LaySt W Z most base n0 v vz s cs L (L' ++ L2) B3 (j + 1) := by
 have hsz := h.sz
 have hys := hY.size
 have hzs := hg.size
 have hWs := h.grown.size
 have hne : ∀ b, b < wr.heap.size → (b < W.heap.size ∧ some b ≠ v.ownBlock ∨ b = W.heap.size ∨ b = B3) → some b ≠ vj.ownBlock := by
  intro b hb hc e
  rcases h.own b e.symm with e2 | ⟨e2, e3⟩
  ·rcases hc with ⟨_, hc⟩ | hc | hc
   ·exact hc e2.symm
   ·have := (hvl b e2).2; omega
   ·have := (hvl b e2).2; omega
  ·rcases hc with ⟨hc, _⟩ | hc | hc
   ·omega
   ·omega
   ·exact e3 hc
 have hk : ∀ b, b < wr.heap.size → (b < W.heap.size ∧ some b ≠ v.ownBlock ∨ b = W.heap.size ∨ b = B3) → Z.heap[b]? = wr.heap[b]? := fun b hb hc => (hg.block b (by omega) (hne b hb hc)).trans (hY.block b hb)
 have hl : (L ++ (⟨s, 0, cs⟩ : Pl) :: L').length = L.length + 1 + L'.length := by simp only [List.length_append, List.length_cons]; omega
 rw [hl] at h2
 have hl2 := congrArg List.length h2
 rw [List.length_map, layS_length] at hl2
 refine ⟨(hk _ (by omega) (.inr (.inl rfl))).trans h.box, (hk _ (by omega) (.inr (.inr rfl))).trans h.node, by simpa using hp, ?_, ⟨hg.os.trans (hY.os.trans h.grown.os), hg.tape.trans (hY.tape.trans h.grown.tape), hg.output.trans (hY.output.trans h.grown.output), by omega, fun b hb hc => (hk b (by omega) (.inl ⟨hb, hc⟩)).trans (h.grown.block b hb hc)⟩, ?_, ⟨hsz.1, by omega⟩, ?_⟩
 ·rw [h.two, layK_next most s j _ t ht, List.map_append, h2, List.append_assoc]
  congr 3
  rw [List.length_append, hl2, layS_length]
  omega
 ·intro q hq
  rcases ho with e | e
  ·rw [e] at hq; exact h.own q hq
  ·have := e q hq
   exact .inr ⟨by omega, by omega⟩
 ·rw [List.length_append, hl2]
  have := h.size
  omega
set_option maxHeartbeats 8000000 in
set_option maxRecDepth 100000 in
theorem lay_calls (base n0 most : Nat) (hn0 : n0 ≤ base) (hmost : most ≤ 4000) : ∀ (N : Nat) (s : Step) (cs : List Value) (L : List Pl) (v : Value) (W : World), s.n.nodes ≤ N → NIn W (· < n0) s.n cs → Plc W base n0 v L → base ≤ W.heap.size → 0 ≤ s.deep → s.deep + s.n.nodes < 4611686018427387904 → L.length ≤ 4000 →
  Calls Tryd.prog 68 #[v, .agg (cs ++ tailC s 0).toArray, .int .i64 most] W (LayPost W base n0 most v s L) := by
 intro N
 induction N with
 | zero => intro s cs L v W h; have := s.n.nodes_pos; omega
 | succ N ih =>
  intro s cs L v W hN hT hP hbs hd0 hd1 hL
  obtain ⟨⟨k, m, lo, hi, r, kids⟩, d, a, f, l, b⟩ := s
  obtain ⟨ar, ak, cr, ck, rfl⟩ := NIn.shape hT
  obtain ⟨va, vc, rfl, hvc⟩ := hP.form
  have hvl : ∀ q, (Value.slice va L.length vc).ownBlock = some q → base ≤ q ∧ q < W.heap.size := fun q hq => hP.own.lt q hq
  have HI := Lib.hid ih
  have HN := Lib.hid hN
  have HT := Lib.hid hT
  have HP := Lib.hid hP
  have HB := Lib.hid hbs
  have HD := Lib.hid (And.intro hd0 hd1)
  have HV := Lib.hid hvl
  have HN0 := Lib.hid hn0
  have HL := Lib.hid hL
  clear ih hN hT hP hbs hd0 hd1 hvl
  show Calls Tryd.prog 68 #[.slice va L.length vc, .agg #[.int .i64 k, .int .i64 m, .int .i64 lo, .int .i64 hi, .slice ar r.length cr, .slice ak kids.length ck, .int .i64 d, .int .i64 a, .bool f, .bool l, .bool b, .int .i64 0], .int .i64 most] W _
  by_cases hfull : most ≤ L.length
  ·have hge : (most : Int) ≤ (L.length : Int) := by omega
   have HE := Lib.hid (layS_full most (⟨.mk k m lo hi r kids, d, a, f, l, b⟩ : Step) L.length hfull)
   clear hfull
   go_enter Tryd.func68, Tryd.ntmps68
   go_wp2_with fail
   go_ret
   exact ⟨_, [], rfl, by rw [List.append_nil]; exact HP.out.below (Nat.le_trans HN0.out HB.out) ((Below.refl _ W).alloc (Nat.le_refl _) _), HE.out.symm, World.grownBy_alloc _ _ _, .inl rfl⟩
  ·have hlt : (L.length : Int) < (most : Int) := by omega
   have HE := Lib.hid (layS_some most (⟨.mk k m lo hi r kids, d, a, f, l, b⟩ : Step) L.length (by omega))
   have HF := Lib.hid hfull
   clear hfull
   obtain ⟨X, hX⟩ : ∃ X, X = (W.alloc (.cells #[.int .i64 k, .int .i64 m, .int .i64 lo, .int .i64 hi, .slice ar r.length cr, .slice ak kids.length ck, .int .i64 d, .int .i64 a, .bool f, .bool l, .bool b, .int .i64 0] 79)).alloc (.cells #[.int .i64 k, .int .i64 m, .int .i64 lo, .int .i64 hi, .slice ar r.length cr, .slice ak kids.length ck, .int .i64 d, .int .i64 a, .bool f, .bool l, .bool b, .int .i64 0] 79) := ⟨_, rfl⟩
   have hbX : Below W.heap.size W X := by rw [hX]; exact ((Below.refl _ W).alloc (Nat.le_refl _) _).alloc (by simp) _
   have hx0 : X.heap[W.heap.size]? = some (.cells #[.int .i64 k, .int .i64 m, .int .i64 lo, .int .i64 hi, .slice ar r.length cr, .slice ak kids.length ck, .int .i64 d, .int .i64 a, .bool f, .bool l, .bool b, .int .i64 0] 79 (0, 0)) := by rw [hX]; exact (Below.heap_alloc _ _ _ (by simp)).trans (World.alloc_heap_new W _)
   have hx1 : X.heap[W.heap.size + 1]? = some (.cells #[.int .i64 k, .int .i64 m, .int .i64 lo, .int .i64 hi, .slice ar r.length cr, .slice ak kids.length ck, .int .i64 d, .int .i64 a, .bool f, .bool l, .bool b, .int .i64 0] 79 (0, 0)) := by
    have := World.alloc_heap_new (W.alloc (.cells #[.int .i64 k, .int .i64 m, .int .i64 lo, .int .i64 hi, .slice ar r.length cr, .slice ak kids.length ck, .int .i64 d, .int .i64 a, .bool f, .bool l, .bool b, .int .i64 0] 79)) (.cells #[.int .i64 k, .int .i64 m, .int .i64 lo, .int .i64 hi, .slice ar r.length cr, .slice ak kids.length ck, .int .i64 d, .int .i64 a, .bool f, .bool l, .bool b, .int .i64 0] 79)
    rw [World.size_alloc] at this
    rw [hX]; exact this
   have hxs : X.heap.size = W.heap.size + 2 := by rw [hX]; simp
   obtain ⟨v1, W2, hrun, hpl, hgr, hat⟩ := (HP.out.below (Nat.le_trans HN0.out HB.out) hbX).append HN0.out (by rw [hxs]; have := HB.out; omega) (by omega) ⟨W.heap.size + 1, 0, none⟩ 1 (⟨(⟨.mk k m lo hi r kids, d, a, f, l, b⟩ : Step), 0, [.int .i64 k, .int .i64 m, .int .i64 lo, .int .i64 hi, .slice ar r.length cr, .slice ak kids.length ck]⟩ : Pl) (HT.out.move (fun b hb => hbX.block b (Nat.lt_of_lt_of_le hb (Nat.le_trans HN0.out HB.out)))) (fun i u hu => by rw [add_plain]; exact cell_heap hx1 (by simpa [Pl.cells, tailC] using hu))
   obtain ⟨g1, cap1, rfl⟩ := ownsRow_succ (show W2.ownsRow base 79 12 v1 (L.length + 1) _ by have := hpl.own; rwa [List.length_append] at this)
   have hb2 : ∀ b, b < W.heap.size + 2 → some b ≠ (Value.slice va L.length vc).ownBlock → W2.heap[b]? = X.heap[b]? := fun b hb hne => hgr.block b (by omega) hne
   have hbx : W2.heap[W.heap.size]? = some (.cells #[.int .i64 k, .int .i64 m, .int .i64 lo, .int .i64 hi, .slice ar r.length cr, .slice ak kids.length ck, .int .i64 d, .int .i64 a, .bool f, .bool l, .bool b, .int .i64 0] 79 (0, 0)) := (hb2 _ (by omega) (fun e => by have := (HV.out _ e.symm).2; omega)).trans hx0
   have hs2 := hgr.size
   have hst : LaySt W (W2.alloc (.cells #[.int .i64 k, .int .i64 m, .int .i64 lo, .int .i64 hi, .slice ar r.length cr, .slice ak kids.length ck] 28)) most base n0 (.slice va L.length vc) (.slice (some ⟨g1, 0, none⟩) (L.length + 1) cap1) (⟨.mk k m lo hi r kids, d, a, f, l, b⟩ : Step) [.int .i64 k, .int .i64 m, .int .i64 lo, .int .i64 hi, .slice ar r.length cr, .slice ak kids.length ck] L [] W2.heap.size 0 := by
    have hbA : Below W2.heap.size W2 (W2.alloc (.cells #[.int .i64 k, .int .i64 m, .int .i64 lo, .int .i64 hi, .slice ar r.length cr, .slice ak kids.length ck] 28)) := (Below.refl _ W2).alloc (Nat.le_refl _) _
    refine ⟨(hbA.block _ (by omega)).trans hbx, World.alloc_heap_new W2 _, hpl.below (by have := HB.out; have := HN0.out; omega) hbA, by simp only [List.map_nil, List.nil_append, List.length_nil, Nat.add_zero], ?_, ?_, ⟨by omega, by simp⟩, by simp only [List.length_nil]; omega⟩
    ·exact ⟨hbA.os.trans (hgr.os.trans hbX.os), hbA.tape.trans (hgr.tape.trans hbX.tape), hbA.output.trans (hgr.output.trans hbX.output), by have := hbA.size; omega, fun b hb hc => (hbA.block b (by omega)).trans ((hb2 b (by omega) hc).trans (hbX.block b hb))⟩
    ·intro q hq
     rcases hat with e | e
     ·rw [e] at hq; exact .inl hq
     ·have h9 := (hpl.own.lt _ e).2; rw [e] at hq; have := Option.some.inj hq; exact .inr ⟨by omega, by omega⟩
   rw [hX] at hrun
   have HRUN := Lib.hid hrun
   have HST := Lib.hid hst
   have c0 := cell_heap (i := 0) hbx rfl
   have c1 := cell_heap (i := 1) hbx rfl
   have c2 := cell_heap (i := 2) hbx rfl
   have c3 := cell_heap (i := 3) hbx rfl
   have c4 := cell_heap (i := 4) hbx rfl
   have c5 := cell_heap (i := 5) hbx rfl
   clear hrun hX hbX hx0 hx1 hxs hpl hgr hat hb2 hbx hs2 hst
   go_enter Tryd.func68, Tryd.ntmps68
   go_wp2_with (at_builtin; refine Lib.wpList_append_run _ rfl _ _ _ _ rfl _ _ rfl rfl _ _ HRUN.out ?_)
   clear c0 c1 c2 c3 c4 c5
   go_loopg [0, 9] kids.length (fun gg s0 s9 wr => ∃ (vj : Value) (j : Nat) (L' : List Pl), vj = s0 ∧ s9 = .int .i64 j ∧ j ≤ kids.length ∧ kids.length - j ≤ gg ∧ Aside0 (LaySt W wr most base n0 (.slice va L.length vc) vj (⟨.mk k m lo hi r kids, d, a, f, l, b⟩ : Step) [.int .i64 k, .int .i64 m, .int .i64 lo, .int .i64 hi, .slice ar r.length cr, .slice ak kids.length ck] L L' W2.heap.size j))
   case atStart => exact ⟨_, 0, [], rfl, rfl, by omega, by omega, ⟨HST.out⟩⟩
   case round =>
    obtain ⟨vj, j, L', rfl, rfl, hj, hgg, HS⟩ := hrel
    obtain ⟨gj, cj, rfl⟩ := ownsRow_succ (show wr.ownsRow base 79 12 vj (L.length + L'.length + 1) _ by have := HS.out.plc.own; rwa [show (L ++ (⟨(⟨.mk k m lo hi r kids, d, a, f, l, b⟩ : Step), 0, [.int .i64 k, .int .i64 m, .int .i64 lo, .int .i64 hi, .slice ar r.length cr, .slice ak kids.length ck]⟩ : Pl) :: L').length = L.length + L'.length + 1 by simp only [List.length_append, List.length_cons]; omega] at this)
    obtain ⟨M, hM⟩ : ∃ M, M = L.length + L'.length + 1 := ⟨_, rfl⟩
    have hMl : M ≤ most := by rw [hM]; have := HS.out.size; omega
    have HM := Lib.hid hM
    rw [← hM] at HS
    rw [← hM]
    clear hM
    have n5 := cell_heap (i := 5) HS.out.node rfl
    by_cases hjn : j < kids.length
    ·have hjn' : (j : Int) < (kids.length : Int) := by omega
     by_cases hml : M < most
     ·have hml' : (M : Int) < (most : Int) := by omega
      obtain ⟨t, ht⟩ : ∃ t, kids[j]? = some t := ⟨_, List.getElem?_eq_getElem hjn⟩
      obtain ⟨ad, kcs, rfl, hPk, hNk, hck⟩ := HT.out.kid ht
      obtain ⟨tk, tm, tlo, thi, tr, tkids⟩ := t
      obtain ⟨tar, tak, tcr, tck, rfl⟩ := NIn.shape hNk
      have hnk : (NT.mk tk tm tlo thi tr tkids).nodes ≤ NT.nodesL kids := NT.nodes_kid (List.mem_of_getElem? ht)
      have hmv : ∀ b, b < n0 → wr.heap[b]? = W.heap[b]? := fun b hb => HS.out.grown.block b (Nat.lt_of_lt_of_le hb (Nat.le_trans HN0.out HB.out)) (fun e => by have := (HV.out b e.symm).1; have := HN0.out; omega)
      have HQ := Lib.hid (show ∀ (i : Nat) (u : Value), ([.int .i64 tk, .int .i64 tm, .int .i64 tlo, .int .i64 thi, .slice tar tr.length tcr, .slice tak tkids.length tck] : List Value)[i]? = some u → wr.cell? (ad.add (j * 6 + i)) = some u from fun i u hu => (World.cell?_of_block (w := W) (a := ad.add (j * 6 + i)) (by rw [add_block]; exact hmv _ hPk)).trans (hck i u hu))
      have HPL := Lib.hid (show ad.block < wr.heap.size by have h1 := HS.out.sz; have h2 := HB.out; have h3 := HN0.out; omega)
      have HNK := Lib.hid (hNk.move hmv)
      have HNL := Lib.hid hnk
      have HTJ := Lib.hid ht
      have HSB := Lib.hid (show W.heap.size < wr.heap.size ∧ W2.heap.size < wr.heap.size by have := HS.out.sz; omega)
      have hw1 : IntKind.i64.wrap (d + 1) = d + 1 := IntWalk.i64_in _ (by have := HD.out; omega)
      have hw2 : IntKind.i64.wrap ((kids.length : Int) - 1) = (kids.length : Int) - 1 := IntWalk.i64_in _ (by have h0 : 0 ≤ d := HD.out.1; have h1 := HD.out.2; have h2 := NT.nodesL_length kids; simp only [NT.nodes] at h1; omega)
      obtain ⟨F, hF⟩ : ∃ F, F = decide (j = 0) := ⟨_, rfl⟩
      obtain ⟨E, hE⟩ : ∃ E, E = decide (j + 1 = kids.length) := ⟨_, rfl⟩
      have hf1 : ((j : Int) == 0) = F := by rw [hF, Bool.eq_iff_iff]; simp
      have he1 : ((j : Int) == (kids.length : Int) - 1) = E := by rw [hE, Bool.eq_iff_iff]; simp; omega
      have HFE := Lib.hid (And.intro hF hE)
      clear hPk hNk hck hnk hmv ht hF hE
      go_upto_region 9 with (fail)
      clear n5
      have HBa := Lib.hid (show Below wr.heap.size wr wr.drew from (Below.refl _ wr).drew)
      refine start_ (n := 21) (S := fun w' => Below wr.heap.size wr w') (ds := [20]) #[false, false, false, false, false, false, false, false, false, false, false, false, false, false, false, false, false, false, false, false, false] (by kernel_rfl) rfl rfl HBa.out (fun hHeld => ?_)
      refine with_self (fun HT_ => ?_)
      generalize wr.drew = w_d at HBa hHeld ⊢
      refine pure_ (i := 0) (N := some 37) (v := ?_) (a' := ?_) #[true, false, false, false, false, false, false, false, false, false, false, false, false, false, false, false, false, false, false, false, false] rfl rfl (any_of HT_.out (by kernel_rfl)) (fun _ _ _ h => h) (Or.inl ⟨by rfl, ?_⟩) ?_ ?_
      rotate_left
      ·intro w'
       go_simp
       with_reducible rfl
      rotate_left
      ·simp only [Act.put, pu_, pz_, ps_, i64_w, i32_w]
       rfl
      refine take_ (i := 1) (N := some 38) (v := ?_) (a' := ?_) #[true, true, false, false, false, false, false, false, false, false, false, false, false, false, false, false, false, false, false, false, false] rfl rfl (take_of HT_.out (by kernel_rfl)) (fun _ _ _ h => h) (Or.inl ⟨by rfl, ?_⟩) hHeld ?_ ?_
      rotate_left
      ·intro w' hS
       have hz := (hS.block _ HSB.out.2).trans HS.out.node
       have nq5 := cell_heap (i := 5) hz rfl
       clear hz
       clear hS
       go_simp
       with_reducible rfl
      rotate_left
      ·simp only [Act.put, pu_, pz_, ps_, i64_w, i32_w]
       rfl
      refine pure_ (i := 2) (N := some 39) (v := ?_) (a' := ?_) #[true, true, true, false, false, false, false, false, false, false, false, false, false, false, false, false, false, false, false, false, false] rfl rfl (any_of HT_.out (by kernel_rfl)) (fun _ _ _ h => h) (Or.inl ⟨by rfl, ?_⟩) ?_ ?_
      rotate_left
      ·intro w'
       go_simp
       with_reducible rfl
      rotate_left
      ·simp only [Act.put, pu_, pz_, ps_, i64_w, i32_w]
       rfl
      refine pure_ (i := 3) (N := some 40) (v := ?_) (a' := ?_) #[true, true, true, true, false, false, false, false, false, false, false, false, false, false, false, false, false, false, false, false, false] rfl rfl (any_of HT_.out (by kernel_rfl)) (fun _ _ _ h => h) (Or.inl ⟨by rfl, ?_⟩) ?_ ?_
      rotate_left
      ·intro w'
       go_simp
       with_reducible rfl
      rotate_left
      ·simp only [Act.put, pu_, pz_, ps_, i64_w, i32_w]
       rfl
      refine take_ (i := 4) (N := some 41) (v := ?_) (a' := ?_) #[true, true, true, true, true, false, false, false, false, false, false, false, false, false, false, false, false, false, false, false, false] rfl rfl (take_of HT_.out (by kernel_rfl)) (fun _ _ _ h => h) (Or.inl ⟨by rfl, ?_⟩) hHeld ?_ ?_
      rotate_left
      ·intro w' hS
       have hq := fun (i : Nat) (u : Value) (hu : ([.int .i64 tk, .int .i64 tm, .int .i64 tlo, .int .i64 thi, .slice tar tr.length tcr, .slice tak tkids.length tck] : List Value)[i]? = some u) => (show w'.cell? (ad.add (j * 6 + i)) = some u from (World.cell?_of_block (w := wr) (a := ad.add (j * 6 + i)) (by rw [add_block]; exact hS.block _ HPL.out)).trans (HQ.out i u hu))
       have x0 := hq 0 _ rfl
       rw [Nat.add_zero] at x0
       have x1 := cell_at hq 1 (by decide) rfl
       have x2 := cell_at hq 2 (by decide) rfl
       have x3 := cell_at hq 3 (by decide) rfl
       have x4 := cell_at hq 4 (by decide) rfl
       have x5 := cell_at hq 5 (by decide) rfl
       clear hq
       clear hS
       go_simp
       with_reducible rfl
      rotate_left
      ·simp only [Act.put, pu_, pz_, ps_, i64_w, i32_w]
       rfl
      refine pure_ (i := 5) (N := some 42) (v := ?_) (a' := ?_) #[true, true, true, true, true, true, false, false, false, false, false, false, false, false, false, false, false, false, false, false, false] rfl rfl (any_of HT_.out (by kernel_rfl)) (fun _ _ _ h => h) (Or.inl ⟨by rfl, ?_⟩) ?_ ?_
      rotate_left
      ·intro w'
       go_simp
       with_reducible rfl
      rotate_left
      ·simp only [Act.put, pu_, pz_, ps_, i64_w, i32_w]
       rfl
      refine take_ (i := 6) (N := some 43) (v := ?_) (a' := ?_) #[true, true, true, true, true, true, true, false, false, false, false, false, false, false, false, false, false, false, false, false, false] rfl rfl (take_of HT_.out (by kernel_rfl)) (fun _ _ _ h => h) (Or.inl ⟨by rfl, ?_⟩) hHeld ?_ ?_
      rotate_left
      ·intro w' hS
       have hz := (hS.block _ HSB.out.1).trans HS.out.box
       have nq6 : w'.cell? ⟨W.heap.size, 6, none⟩ = some (.int .i64 d) := cell_heap hz rfl
       clear hz
       clear hS
       go_simp
       with_reducible rfl
      rotate_left
      ·simp only [Act.put, pu_, pz_, ps_, i64_w, i32_w]
       rfl
      refine pure_ (i := 7) (N := some 44) (v := ?_) (a' := ?_) #[true, true, true, true, true, true, true, true, false, false, false, false, false, false, false, false, false, false, false, false, false] rfl rfl (any_of HT_.out (by kernel_rfl)) (fun _ _ _ h => h) (Or.inl ⟨by rfl, ?_⟩) ?_ ?_
      rotate_left
      ·intro w'
       go_simp
       with_reducible rfl
      rotate_left
      ·simp only [Act.put, pu_, pz_, ps_, i64_w, i32_w]
       rfl
      refine pure_ (i := 8) (N := some 45) (v := ?_) (a' := ?_) #[true, true, true, true, true, true, true, true, true, false, false, false, false, false, false, false, false, false, false, false, false] rfl rfl (any_of HT_.out (by kernel_rfl)) (fun _ _ _ h => h) (Or.inl ⟨by rfl, ?_⟩) ?_ ?_
      rotate_left
      ·intro w'
       go_simp
       with_reducible rfl
      rotate_left
      ·simp only [Act.put, pu_, pz_, ps_, i64_w, i32_w]
       rfl
      refine take_ (i := 9) (N := some 46) (v := ?_) (a' := ?_) #[true, true, true, true, true, true, true, true, true, true, false, false, false, false, false, false, false, false, false, false, false] rfl rfl (take_of HT_.out (by kernel_rfl)) (fun _ _ _ h => h) (Or.inl ⟨by rfl, ?_⟩) hHeld ?_ ?_
      rotate_left
      ·intro w' hS
       have hz := (hS.block _ HSB.out.2).trans HS.out.node
       have nq0 := cell_heap (i := 0) hz rfl
       clear hz
       clear hS
       go_simp
       with_reducible rfl
      rotate_left
      ·simp only [Act.put, pu_, pz_, ps_, i64_w, i32_w]
       rfl
      refine pure_ (i := 10) (N := some 47) (v := ?_) (a' := ?_) #[true, true, true, true, true, true, true, true, true, true, true, false, false, false, false, false, false, false, false, false, false] rfl rfl (any_of HT_.out (by kernel_rfl)) (fun _ _ _ h => h) (Or.inl ⟨by rfl, ?_⟩) ?_ ?_
      rotate_left
      ·intro w'
       go_simp
       with_reducible rfl
      rotate_left
      ·simp only [Act.put, pu_, pz_, ps_, i64_w, i32_w]
       rfl
      refine pure_ (i := 11) (N := some 48) (v := ?_) (a' := ?_) #[true, true, true, true, true, true, true, true, true, true, true, true, false, false, false, false, false, false, false, false, false] rfl rfl (any_of HT_.out (by kernel_rfl)) (fun _ _ _ h => h) (Or.inl ⟨by rfl, ?_⟩) ?_ ?_
      rotate_left
      ·intro w'
       go_simp
       with_reducible rfl
      rotate_left
      ·simp only [Act.put, pu_, pz_, ps_, i64_w, i32_w]
       rfl
      refine pure_ (i := 12) (N := some 49) (v := ?_) (a' := ?_) #[true, true, true, true, true, true, true, true, true, true, true, true, true, false, false, false, false, false, false, false, false] rfl rfl (any_of HT_.out (by kernel_rfl)) (fun _ _ _ h => h) (Or.inl ⟨by rfl, ?_⟩) ?_ ?_
      rotate_left
      ·intro w'
       go_simp
       with_reducible rfl
      rotate_left
      ·simp only [Act.put, pu_, pz_, ps_, i64_w, i32_w]
       rfl
      refine pure_ (i := 13) (N := some 50) (v := ?_) (a' := ?_) #[true, true, true, true, true, true, true, true, true, true, true, true, true, true, false, false, false, false, false, false, false] rfl rfl (any_of HT_.out (by kernel_rfl)) (fun _ _ _ h => h) (Or.inl ⟨by rfl, ?_⟩) ?_ ?_
      rotate_left
      ·intro w'
       go_simp
       with_reducible rfl
      rotate_left
      ·simp only [Act.put, pu_, pz_, ps_, i64_w, i32_w]
       rfl
      refine take_ (i := 14) (N := some 51) (v := ?_) (a' := ?_) #[true, true, true, true, true, true, true, true, true, true, true, true, true, true, true, false, false, false, false, false, false] rfl rfl (take_of HT_.out (by kernel_rfl)) (fun _ _ _ h => h) (Or.inl ⟨by rfl, ?_⟩) hHeld ?_ ?_
      rotate_left
      ·intro w' hS
       have hz := (hS.block _ HSB.out.2).trans HS.out.node
       have nq5 := cell_heap (i := 5) hz rfl
       clear hz
       clear hS
       go_simp
       with_reducible rfl
      rotate_left
      ·simp only [Act.put, pu_, pz_, ps_, i64_w, i32_w]
       rfl
      refine pure_ (i := 15) (N := some 52) (v := ?_) (a' := ?_) #[true, true, true, true, true, true, true, true, true, true, true, true, true, true, true, true, false, false, false, false, false] rfl rfl (any_of HT_.out (by kernel_rfl)) (fun _ _ _ h => h) (Or.inl ⟨by rfl, ?_⟩) ?_ ?_
      rotate_left
      ·intro w'
       go_simp
       with_reducible rfl
      rotate_left
      ·simp only [Act.put, pu_, pz_, ps_, i64_w, i32_w]
       rfl
      refine pure_ (i := 16) (N := some 53) (v := ?_) (a' := ?_) #[true, true, true, true, true, true, true, true, true, true, true, true, true, true, true, true, true, false, false, false, false] rfl rfl (any_of HT_.out (by kernel_rfl)) (fun _ _ _ h => h) (Or.inl ⟨by rfl, ?_⟩) ?_ ?_
      rotate_left
      ·intro w'
       go_simp
       with_reducible rfl
      rotate_left
      ·simp only [Act.put, pu_, pz_, ps_, i64_w, i32_w]
       rfl
      refine pure_ (i := 17) (N := some 54) (v := ?_) (a' := ?_) #[true, true, true, true, true, true, true, true, true, true, true, true, true, true, true, true, true, true, false, false, false] rfl rfl (any_of HT_.out (by kernel_rfl)) (fun _ _ _ h => h) (Or.inl ⟨by rfl, ?_⟩) ?_ ?_
      rotate_left
      ·intro w'
       go_simp
       with_reducible rfl
      rotate_left
      ·simp only [Act.put, pu_, pz_, ps_, i64_w, i32_w]
       rfl
      refine pure_ (i := 18) (N := some 55) (v := ?_) (a' := ?_) #[true, true, true, true, true, true, true, true, true, true, true, true, true, true, true, true, true, true, true, false, false] rfl rfl (any_of HT_.out (by kernel_rfl)) (fun _ _ _ h => h) (Or.inl ⟨by rfl, ?_⟩) ?_ ?_
      rotate_left
      ·intro w'
       go_simp
       with_reducible rfl
      rotate_left
      ·simp only [Act.put, pu_, pz_, ps_, i64_w, i32_w]
       rfl
      refine one_ (i := 19) (N := some 10) #[true, true, true, true, true, true, true, true, true, true, true, true, true, true, true, true, true, true, true, true, false] rfl rfl (one_of HT_.out (by kernel_rfl)) (by decide) (fun K hK => ?_)
      refine value_ (v := .pointer (some ⟨w_d.heap.size, 0, none⟩)) (w1 := w_d.alloc (.cells #[.int .i64 0, .int .i64 0, .int .i64 0, .int .i64 0, .slice none 0 0, .slice none 0 0, .int .i64 0, .int .i64 0, .bool false, .bool false, .bool false, .int .i64 0] 79)) (by rfl) rfl (by go_simp; first | done | rfl) ?_
      clear hHeld
      refine hK.out _ _ (HBa.out.alloc HBa.out.size _) (fun hHeld => ?_)
      clear hK K
      refine norm_ (a' := ?_) ?_ ?_
      rotate_left
      ·show Act.put _ (some 10) _ = _
       simp only [Act.put, pu_, pz_, ps_, i64_w, i32_w]
       rfl
      refine last_ (i := 20) (N := none) #[true, true, true, true, true, true, true, true, true, true, true, true, true, true, true, true, true, true, true, true, true] rfl rfl (one_of HT_.out (by kernel_rfl)) (by decide) (fun K hK => ?_)
      refine skip_ (w1 := ?_) (by rfl) rfl ?_ ?_
      rotate_left
      ·go_simp
       rfl
      refine hK.out _ _ ?_
      clear hK K
      refine done_ (done_of HT_.out (by kernel_rfl)) ?_
      clear HT_ hHeld hw1 hw2 hf1 he1
      have hq1 : W2.heap.size < w_d.heap.size := by have h1 := HSB.out.2; have h2 := HBa.out.size; omega
      have hq2 : W.heap.size < w_d.heap.size := by have h1 := HSB.out.1; have h2 := HBa.out.size; omega
      have nk0 := cell_heap (i := 0) ((HBa.out.block _ HSB.out.2).trans HS.out.node) rfl
      have nb10 : w_d.cell? ⟨W.heap.size, 10, none⟩ = some (.bool b) := cell_heap ((HBa.out.block _ HSB.out.1).trans HS.out.box) rfl
      by_cases h7 : k = 7
      ·subst h7
       have hbY : Below wr.heap.size wr (w_d.alloc (.cells #[.int .i64 tk, .int .i64 tm, .int .i64 tlo, .int .i64 thi, .slice tar tr.length tcr, .slice tak tkids.length tck, .int .i64 (d + 1), .int .i64 7, .bool F, .bool E, .bool true, .int .i64 0] 79)) := HBa.out.alloc HBa.out.size _
       have hlay := HI.out (((⟨.mk 7 m lo hi r kids, d, a, f, l, b⟩ : Step)).kid j (.mk tk tm tlo thi tr tkids)) [.int .i64 tk, .int .i64 tm, .int .i64 tlo, .int .i64 thi, .slice tar tr.length tcr, .slice tak tkids.length tck] (L ++ (⟨(⟨.mk 7 m lo hi r kids, d, a, f, l, b⟩ : Step), 0, [.int .i64 7, .int .i64 m, .int .i64 lo, .int .i64 hi, .slice ar r.length cr, .slice (some ad) kids.length ck]⟩ : Pl) :: L') (.slice (some ⟨gj, 0, none⟩) M cj) (w_d.alloc (.cells #[.int .i64 tk, .int .i64 tm, .int .i64 tlo, .int .i64 thi, .slice tar tr.length tcr, .slice tak tkids.length tck, .int .i64 (d + 1), .int .i64 7, .bool F, .bool E, .bool true, .int .i64 0] 79)) (by have h1 := HN.out; have h2 := HNL.out; simp only [NT.nodes, Step.kid] at h1 h2 ⊢; omega) (HNK.out.move (fun b hb => hbY.block b (by have h1 := HS.out.sz; have h2 := HB.out; have h3 := HN0.out; omega))) (HS.out.plc.below (by have h1 := HS.out.sz; have h2 := HB.out; have h3 := HN0.out; omega) hbY) (by have h1 := hbY.size; have h2 := HB.out; have h3 := HS.out.sz; omega) (by have := HD.out; simp only [Step.kid]; omega) (by have h1 := HD.out.2; have h2 := HNL.out; simp only [NT.nodes, Step.kid] at h1 h2 ⊢; omega) (by have := HM.out; simp only [List.length_append, List.length_cons]; omega)
       have hv : (([.int .i64 tk, .int .i64 tm, .int .i64 tlo, .int .i64 thi, .slice tar tr.length tcr, .slice tak tkids.length tck] : List Value) ++ tailC (((⟨.mk 7 m lo hi r kids, d, a, f, l, b⟩ : Step)).kid j (.mk tk tm tlo thi tr tkids)) 0).toArray = (#[.int .i64 tk, .int .i64 tm, .int .i64 tlo, .int .i64 thi, .slice tar tr.length tcr, .slice tak tkids.length tck, .int .i64 (d + 1), .int .i64 7, .bool F, .bool E, .bool true, .int .i64 0] : Array Value) := by
        show (#[.int .i64 tk, .int .i64 tm, .int .i64 tlo, .int .i64 thi, .slice tar tr.length tcr, .slice tak tkids.length tck, .int .i64 (d + 1), .int .i64 7, .bool (decide (j = 0)), .bool (decide (j + 1 = kids.length)), .bool (branchOf 7 b), .int .i64 ((0 : Nat) : Int)] : Array Value) = _
        rw [← HFE.out.1, ← HFE.out.2, show branchOf 7 b = true from by simp [branchOf]]; rfl
       rw [hv] at hlay
       have HLAY := Lib.hid hlay
       have HBY := Lib.hid hbY
       clear hlay hv hbY
       go_wp2_with fail
       refine HLAY.out.mono ?_
       rintro e w8 ⟨v8, L8, rfl, g1, g2, g3, g4⟩
       have HX8 := Lib.hid (HS.out.next HV.out HN0.out HB.out HTJ.out HBY.out g1 g2 g3 g4)
       clear g1 g2 g3 g4 HLAY
       go_wp2_with fail
       go_roundg (kids.length - (j + 1))
       case measure => omega
       case rel => exact ⟨_, j + 1, L' ++ L8, rfl, congrArg (Value.int .i64) (by first | (push_cast; rfl) | (rw [w64_lit _ (by omega) (by have h0 : 0 ≤ d := HD.out.1; have h1 := HD.out.2; have h2 := NT.nodesL_length kids; simp only [NT.nodes] at h1; omega)]; push_cast; rfl)), by omega, Nat.le_refl _, ⟨HX8.out⟩⟩
      by_cases h6 : k = 6
      ·subst h6
       have hbY : Below wr.heap.size wr (w_d.alloc (.cells #[.int .i64 tk, .int .i64 tm, .int .i64 tlo, .int .i64 thi, .slice tar tr.length tcr, .slice tak tkids.length tck, .int .i64 (d + 1), .int .i64 6, .bool F, .bool E, .bool true, .int .i64 0] 79)) := HBa.out.alloc HBa.out.size _
       have hlay := HI.out (((⟨.mk 6 m lo hi r kids, d, a, f, l, b⟩ : Step)).kid j (.mk tk tm tlo thi tr tkids)) [.int .i64 tk, .int .i64 tm, .int .i64 tlo, .int .i64 thi, .slice tar tr.length tcr, .slice tak tkids.length tck] (L ++ (⟨(⟨.mk 6 m lo hi r kids, d, a, f, l, b⟩ : Step), 0, [.int .i64 6, .int .i64 m, .int .i64 lo, .int .i64 hi, .slice ar r.length cr, .slice (some ad) kids.length ck]⟩ : Pl) :: L') (.slice (some ⟨gj, 0, none⟩) M cj) (w_d.alloc (.cells #[.int .i64 tk, .int .i64 tm, .int .i64 tlo, .int .i64 thi, .slice tar tr.length tcr, .slice tak tkids.length tck, .int .i64 (d + 1), .int .i64 6, .bool F, .bool E, .bool true, .int .i64 0] 79)) (by have h1 := HN.out; have h2 := HNL.out; simp only [NT.nodes, Step.kid] at h1 h2 ⊢; omega) (HNK.out.move (fun b hb => hbY.block b (by have h1 := HS.out.sz; have h2 := HB.out; have h3 := HN0.out; omega))) (HS.out.plc.below (by have h1 := HS.out.sz; have h2 := HB.out; have h3 := HN0.out; omega) hbY) (by have h1 := hbY.size; have h2 := HB.out; have h3 := HS.out.sz; omega) (by have := HD.out; simp only [Step.kid]; omega) (by have h1 := HD.out.2; have h2 := HNL.out; simp only [NT.nodes, Step.kid] at h1 h2 ⊢; omega) (by have := HM.out; simp only [List.length_append, List.length_cons]; omega)
       have hv : (([.int .i64 tk, .int .i64 tm, .int .i64 tlo, .int .i64 thi, .slice tar tr.length tcr, .slice tak tkids.length tck] : List Value) ++ tailC (((⟨.mk 6 m lo hi r kids, d, a, f, l, b⟩ : Step)).kid j (.mk tk tm tlo thi tr tkids)) 0).toArray = (#[.int .i64 tk, .int .i64 tm, .int .i64 tlo, .int .i64 thi, .slice tar tr.length tcr, .slice tak tkids.length tck, .int .i64 (d + 1), .int .i64 6, .bool F, .bool E, .bool true, .int .i64 0] : Array Value) := by
        show (#[.int .i64 tk, .int .i64 tm, .int .i64 tlo, .int .i64 thi, .slice tar tr.length tcr, .slice tak tkids.length tck, .int .i64 (d + 1), .int .i64 6, .bool (decide (j = 0)), .bool (decide (j + 1 = kids.length)), .bool (branchOf 6 b), .int .i64 ((0 : Nat) : Int)] : Array Value) = _
        rw [← HFE.out.1, ← HFE.out.2, show branchOf 6 b = true from by simp [branchOf]]; rfl
       rw [hv] at hlay
       have HLAY := Lib.hid hlay
       have HBY := Lib.hid hbY
       clear hlay hv hbY
       go_wp2_with fail
       refine HLAY.out.mono ?_
       rintro e w8 ⟨v8, L8, rfl, g1, g2, g3, g4⟩
       have HX8 := Lib.hid (HS.out.next HV.out HN0.out HB.out HTJ.out HBY.out g1 g2 g3 g4)
       clear g1 g2 g3 g4 HLAY
       go_wp2_with fail
       go_roundg (kids.length - (j + 1))
       case measure => omega
       case rel => exact ⟨_, j + 1, L' ++ L8, rfl, congrArg (Value.int .i64) (by first | (push_cast; rfl) | (rw [w64_lit _ (by omega) (by have h0 : 0 ≤ d := HD.out.1; have h1 := HD.out.2; have h2 := NT.nodesL_length kids; simp only [NT.nodes] at h1; omega)]; push_cast; rfl)), by omega, Nat.le_refl _, ⟨HX8.out⟩⟩
      by_cases h5 : k = 5
      ·subst h5
       have hbY : Below wr.heap.size wr (w_d.alloc (.cells #[.int .i64 tk, .int .i64 tm, .int .i64 tlo, .int .i64 thi, .slice tar tr.length tcr, .slice tak tkids.length tck, .int .i64 (d + 1), .int .i64 5, .bool F, .bool E, .bool b, .int .i64 0] 79)) := HBa.out.alloc HBa.out.size _
       have hlay := HI.out (((⟨.mk 5 m lo hi r kids, d, a, f, l, b⟩ : Step)).kid j (.mk tk tm tlo thi tr tkids)) [.int .i64 tk, .int .i64 tm, .int .i64 tlo, .int .i64 thi, .slice tar tr.length tcr, .slice tak tkids.length tck] (L ++ (⟨(⟨.mk 5 m lo hi r kids, d, a, f, l, b⟩ : Step), 0, [.int .i64 5, .int .i64 m, .int .i64 lo, .int .i64 hi, .slice ar r.length cr, .slice (some ad) kids.length ck]⟩ : Pl) :: L') (.slice (some ⟨gj, 0, none⟩) M cj) (w_d.alloc (.cells #[.int .i64 tk, .int .i64 tm, .int .i64 tlo, .int .i64 thi, .slice tar tr.length tcr, .slice tak tkids.length tck, .int .i64 (d + 1), .int .i64 5, .bool F, .bool E, .bool b, .int .i64 0] 79)) (by have h1 := HN.out; have h2 := HNL.out; simp only [NT.nodes, Step.kid] at h1 h2 ⊢; omega) (HNK.out.move (fun b hb => hbY.block b (by have h1 := HS.out.sz; have h2 := HB.out; have h3 := HN0.out; omega))) (HS.out.plc.below (by have h1 := HS.out.sz; have h2 := HB.out; have h3 := HN0.out; omega) hbY) (by have h1 := hbY.size; have h2 := HB.out; have h3 := HS.out.sz; omega) (by have := HD.out; simp only [Step.kid]; omega) (by have h1 := HD.out.2; have h2 := HNL.out; simp only [NT.nodes, Step.kid] at h1 h2 ⊢; omega) (by have := HM.out; simp only [List.length_append, List.length_cons]; omega)
       have hv : (([.int .i64 tk, .int .i64 tm, .int .i64 tlo, .int .i64 thi, .slice tar tr.length tcr, .slice tak tkids.length tck] : List Value) ++ tailC (((⟨.mk 5 m lo hi r kids, d, a, f, l, b⟩ : Step)).kid j (.mk tk tm tlo thi tr tkids)) 0).toArray = (#[.int .i64 tk, .int .i64 tm, .int .i64 tlo, .int .i64 thi, .slice tar tr.length tcr, .slice tak tkids.length tck, .int .i64 (d + 1), .int .i64 5, .bool F, .bool E, .bool b, .int .i64 0] : Array Value) := by
        show (#[.int .i64 tk, .int .i64 tm, .int .i64 tlo, .int .i64 thi, .slice tar tr.length tcr, .slice tak tkids.length tck, .int .i64 (d + 1), .int .i64 5, .bool (decide (j = 0)), .bool (decide (j + 1 = kids.length)), .bool (branchOf 5 b), .int .i64 ((0 : Nat) : Int)] : Array Value) = _
        rw [← HFE.out.1, ← HFE.out.2, show branchOf 5 b = b from by simp [branchOf]]; rfl
       rw [hv] at hlay
       have HLAY := Lib.hid hlay
       have HBY := Lib.hid hbY
       clear hlay hv hbY
       go_wp2_with fail
       refine HLAY.out.mono ?_
       rintro e w8 ⟨v8, L8, rfl, g1, g2, g3, g4⟩
       have HX8 := Lib.hid (HS.out.next HV.out HN0.out HB.out HTJ.out HBY.out g1 g2 g3 g4)
       clear g1 g2 g3 g4 HLAY
       go_wp2_with fail
       go_roundg (kids.length - (j + 1))
       case measure => omega
       case rel => exact ⟨_, j + 1, L' ++ L8, rfl, congrArg (Value.int .i64) (by first | (push_cast; rfl) | (rw [w64_lit _ (by omega) (by have h0 : 0 ≤ d := HD.out.1; have h1 := HD.out.2; have h2 := NT.nodesL_length kids; simp only [NT.nodes] at h1; omega)]; push_cast; rfl)), by omega, Nat.le_refl _, ⟨HX8.out⟩⟩
      have b7 : (k == 7) = false := beq_eq_false_iff_ne.2 h7
      have b6 : (k == 6) = false := beq_eq_false_iff_ne.2 h6
      have b5 : (k == 5) = false := beq_eq_false_iff_ne.2 h5
      have HK7 := Lib.hid (And.intro (decide_eq_false h7) (And.intro (decide_eq_false h6) (decide_eq_false h5)))
      clear h7 h6 h5
      have hbY : Below wr.heap.size wr (w_d.alloc (.cells #[.int .i64 tk, .int .i64 tm, .int .i64 tlo, .int .i64 thi, .slice tar tr.length tcr, .slice tak tkids.length tck, .int .i64 (d + 1), .int .i64 k, .bool F, .bool E, .bool false, .int .i64 0] 79)) := HBa.out.alloc HBa.out.size _
      have hlay := HI.out (((⟨.mk k m lo hi r kids, d, a, f, l, b⟩ : Step)).kid j (.mk tk tm tlo thi tr tkids)) [.int .i64 tk, .int .i64 tm, .int .i64 tlo, .int .i64 thi, .slice tar tr.length tcr, .slice tak tkids.length tck] (L ++ (⟨(⟨.mk k m lo hi r kids, d, a, f, l, b⟩ : Step), 0, [.int .i64 k, .int .i64 m, .int .i64 lo, .int .i64 hi, .slice ar r.length cr, .slice (some ad) kids.length ck]⟩ : Pl) :: L') (.slice (some ⟨gj, 0, none⟩) M cj) (w_d.alloc (.cells #[.int .i64 tk, .int .i64 tm, .int .i64 tlo, .int .i64 thi, .slice tar tr.length tcr, .slice tak tkids.length tck, .int .i64 (d + 1), .int .i64 k, .bool F, .bool E, .bool false, .int .i64 0] 79)) (by have h1 := HN.out; have h2 := HNL.out; simp only [NT.nodes, Step.kid] at h1 h2 ⊢; omega) (HNK.out.move (fun b hb => hbY.block b (by have h1 := HS.out.sz; have h2 := HB.out; have h3 := HN0.out; omega))) (HS.out.plc.below (by have h1 := HS.out.sz; have h2 := HB.out; have h3 := HN0.out; omega) hbY) (by have h1 := hbY.size; have h2 := HB.out; have h3 := HS.out.sz; omega) (by have := HD.out; simp only [Step.kid]; omega) (by have h1 := HD.out.2; have h2 := HNL.out; simp only [NT.nodes, Step.kid] at h1 h2 ⊢; omega) (by have := HM.out; simp only [List.length_append, List.length_cons]; omega)
      have hv : (([.int .i64 tk, .int .i64 tm, .int .i64 tlo, .int .i64 thi, .slice tar tr.length tcr, .slice tak tkids.length tck] : List Value) ++ tailC (((⟨.mk k m lo hi r kids, d, a, f, l, b⟩ : Step)).kid j (.mk tk tm tlo thi tr tkids)) 0).toArray = (#[.int .i64 tk, .int .i64 tm, .int .i64 tlo, .int .i64 thi, .slice tar tr.length tcr, .slice tak tkids.length tck, .int .i64 (d + 1), .int .i64 k, .bool F, .bool E, .bool false, .int .i64 0] : Array Value) := by
       show (#[.int .i64 tk, .int .i64 tm, .int .i64 tlo, .int .i64 thi, .slice tar tr.length tcr, .slice tak tkids.length tck, .int .i64 (d + 1), .int .i64 k, .bool (decide (j = 0)), .bool (decide (j + 1 = kids.length)), .bool (branchOf k b), .int .i64 ((0 : Nat) : Int)] : Array Value) = _
       rw [← HFE.out.1, ← HFE.out.2, show branchOf k b = false from by simp [branchOf, HK7.out.1, HK7.out.2.1, HK7.out.2.2]]; rfl
      rw [hv] at hlay
      have HLAY := Lib.hid hlay
      have HBY := Lib.hid hbY
      clear hlay hv hbY
      go_wp2_with fail
      refine HLAY.out.mono ?_
      rintro e w8 ⟨v8, L8, rfl, g1, g2, g3, g4⟩
      have HX8 := Lib.hid (HS.out.next HV.out HN0.out HB.out HTJ.out HBY.out g1 g2 g3 g4)
      clear g1 g2 g3 g4 HLAY
      go_wp2_with fail
      go_roundg (kids.length - (j + 1))
      case measure => omega
      case rel => exact ⟨_, j + 1, L' ++ L8, rfl, congrArg (Value.int .i64) (by first | (push_cast; rfl) | (rw [w64_lit _ (by omega) (by have h0 : 0 ≤ d := HD.out.1; have h1 := HD.out.2; have h2 := NT.nodesL_length kids; simp only [NT.nodes] at h1; omega)]; push_cast; rfl)), by omega, Nat.le_refl _, ⟨HX8.out⟩⟩
     ·have hml' : ¬ (M : Int) < (most : Int) := by omega
      have HMM := Lib.hid (show M = most by omega)
      clear hml
      go_upto_region 17 with (fail)
      have hK0 : layK most (⟨.mk k m lo hi r kids, d, a, f, l, b⟩ : Step) j (L.length + 1 + L'.length) = [] := layK_full most (⟨.mk k m lo hi r kids, d, a, f, l, b⟩ : Step) _ (by have h1 := HM.out; have h2 := HMM.out; omega) (kids.length - j) j (by simp only [NT.kids]; omega)
      have hsplit := HS.out.two
      rw [hK0, List.append_nil] at hsplit
      have hpl := HS.out.plc
      have hlen : (L ++ (⟨(⟨.mk k m lo hi r kids, d, a, f, l, b⟩ : Step), 0, [.int .i64 k, .int .i64 m, .int .i64 lo, .int .i64 hi, .slice ar r.length cr, .slice ak kids.length ck]⟩ : Pl) :: L').length = M := by have := HM.out; simp only [List.length_append, List.length_cons]; omega
      rw [← hlen] at hpl
      have hst := hpl.stored HN0.out M
      have hml6 := rowP_length _ (fun q hq => hpl.len q hq)
      have hcell : ∃ u, wr.cell? ⟨gj, L.length * 12 + 11, none⟩ = some u := by
       have hlt : L.length * 12 + 11 < (rowP (L ++ (⟨(⟨.mk k m lo hi r kids, d, a, f, l, b⟩ : Step), 0, [.int .i64 k, .int .i64 m, .int .i64 lo, .int .i64 hi, .slice ar r.length cr, .slice ak kids.length ck]⟩ : Pl) :: L')).length := by rw [hml6, hlen]; have := HM.out; omega
       exact ⟨_, (hpl.own.cellAt _ (by rw [hlen]; have := HM.out; omega)).trans (List.getElem?_eq_getElem hlt)⟩
      obtain ⟨u0, hcell⟩ := hcell
      have hfz := hpl.own.frozenAt (L.length * 12 + 11)
      have hgo := hpl.own.lt gj rfl
      have hown := HS.out.own gj rfl
      rw [hlen] at hst
      have HFIN := Lib.hid (show ∃ (v' : Value) (Lq : List Pl), Value.slice (some ⟨gj, 0, none⟩) M cj = v' ∧ Plc (wr.setCell ⟨gj, L.length * 12 + 11, none⟩ (.int .i64 M)) base n0 v' (L ++ Lq) ∧ Lq.map Pl.two = layS most (⟨.mk k m lo hi r kids, d, a, f, l, b⟩ : Step) L.length ∧ W.grownBy (wr.setCell ⟨gj, L.length * 12 + 11, none⟩ (.int .i64 M)) (Value.slice va L.length vc).ownBlock ∧ (v'.ownBlock = (Value.slice va L.length vc).ownBlock ∨ ∀ q, v'.ownBlock = some q → W.heap.size ≤ q) from by
       refine ⟨_, ⟨(⟨.mk k m lo hi r kids, d, a, f, l, b⟩ : Step), M, [.int .i64 k, .int .i64 m, .int .i64 lo, .int .i64 hi, .slice ar r.length cr, .slice ak kids.length ck]⟩ :: L', rfl, hst, ?_, ?_, ?_⟩
       ·rw [HE.out, hsplit]; simp only [List.map_cons, Pl.two, List.length_map]; congr 2; have := HM.out; omega
       ·refine ⟨HS.out.grown.os, HS.out.grown.tape, HS.out.grown.output, by have := HS.out.grown.size; simpa [World.setCell] using this, fun b hb hc => (Below.heap_setCell wr ⟨gj, L.length * 12 + 11, none⟩ _ b (by simp only; rintro rfl; rcases hown with e | e; exact hc e.symm; omega)).trans (HS.out.grown.block b hb hc)⟩
       ·rcases hown with e | e
        ·exact .inl e.symm
        ·exact .inr (fun q hq => by have e5 : gj = q := Option.some.inj hq; omega))
      have hlt2 : (L.length : Int) < (M : Int) := by have := HM.out; omega
      clear hsplit hpl hst hml6 hgo hown hlen hK0 n5
      go_wp2_with fail
      go_ret
      obtain ⟨v', Lq, e1, g1, g2, g3, g4⟩ := HFIN.out
      exact ⟨_, Lq, by rw [← e1]; rfl, g1, g2, g3, g4⟩
    ·have hjn' : ¬ (j : Int) < (kids.length : Int) := by omega
     go_upto_region 17 with (fail)
     have hK0 : layK most (⟨.mk k m lo hi r kids, d, a, f, l, b⟩ : Step) j (L.length + 1 + L'.length) = [] := layK_end most (⟨.mk k m lo hi r kids, d, a, f, l, b⟩ : Step) j _ (by simp only [NT.kids]; omega)
     have hsplit := HS.out.two
     rw [hK0, List.append_nil] at hsplit
     have hpl := HS.out.plc
     have hlen : (L ++ (⟨(⟨.mk k m lo hi r kids, d, a, f, l, b⟩ : Step), 0, [.int .i64 k, .int .i64 m, .int .i64 lo, .int .i64 hi, .slice ar r.length cr, .slice ak kids.length ck]⟩ : Pl) :: L').length = M := by have := HM.out; simp only [List.length_append, List.length_cons]; omega
     rw [← hlen] at hpl
     have hst := hpl.stored HN0.out M
     have hml6 := rowP_length _ (fun q hq => hpl.len q hq)
     have hcell : ∃ u, wr.cell? ⟨gj, L.length * 12 + 11, none⟩ = some u := by
      have hlt : L.length * 12 + 11 < (rowP (L ++ (⟨(⟨.mk k m lo hi r kids, d, a, f, l, b⟩ : Step), 0, [.int .i64 k, .int .i64 m, .int .i64 lo, .int .i64 hi, .slice ar r.length cr, .slice ak kids.length ck]⟩ : Pl) :: L')).length := by rw [hml6, hlen]; have := HM.out; omega
      exact ⟨_, (hpl.own.cellAt _ (by rw [hlen]; have := HM.out; omega)).trans (List.getElem?_eq_getElem hlt)⟩
     obtain ⟨u0, hcell⟩ := hcell
     have hfz := hpl.own.frozenAt (L.length * 12 + 11)
     have hgo := hpl.own.lt gj rfl
     have hown := HS.out.own gj rfl
     rw [hlen] at hst
     have HFIN := Lib.hid (show ∃ (v' : Value) (Lq : List Pl), Value.slice (some ⟨gj, 0, none⟩) M cj = v' ∧ Plc (wr.setCell ⟨gj, L.length * 12 + 11, none⟩ (.int .i64 M)) base n0 v' (L ++ Lq) ∧ Lq.map Pl.two = layS most (⟨.mk k m lo hi r kids, d, a, f, l, b⟩ : Step) L.length ∧ W.grownBy (wr.setCell ⟨gj, L.length * 12 + 11, none⟩ (.int .i64 M)) (Value.slice va L.length vc).ownBlock ∧ (v'.ownBlock = (Value.slice va L.length vc).ownBlock ∨ ∀ q, v'.ownBlock = some q → W.heap.size ≤ q) from by
      refine ⟨_, ⟨(⟨.mk k m lo hi r kids, d, a, f, l, b⟩ : Step), M, [.int .i64 k, .int .i64 m, .int .i64 lo, .int .i64 hi, .slice ar r.length cr, .slice ak kids.length ck]⟩ :: L', rfl, hst, ?_, ?_, ?_⟩
      ·rw [HE.out, hsplit]; simp only [List.map_cons, Pl.two, List.length_map]; congr 2; have := HM.out; omega
      ·refine ⟨HS.out.grown.os, HS.out.grown.tape, HS.out.grown.output, by have := HS.out.grown.size; simpa [World.setCell] using this, fun b hb hc => (Below.heap_setCell wr ⟨gj, L.length * 12 + 11, none⟩ _ b (by simp only; rintro rfl; rcases hown with e | e; exact hc e.symm; omega)).trans (HS.out.grown.block b hb hc)⟩
      ·rcases hown with e | e
       ·exact .inl e.symm
       ·exact .inr (fun q hq => by have e5 : gj = q := Option.some.inj hq; omega))
     have hlt2 : (L.length : Int) < (M : Int) := by have := HM.out; omega
     clear hsplit hpl hst hml6 hgo hown hlen hK0 n5
     go_wp2_with fail
     go_ret
     obtain ⟨v', Lq, e1, g1, g2, g3, g4⟩ := HFIN.out
     exact ⟨_, Lq, by rw [← e1]; rfl, g1, g2, g3, g4⟩
/-- what Laid gives -/
def LaidPost (W : World) (most : Nat) (t : NT) (e : Ending) (w' : World) : Prop := ∃ (v : Value) (L : List Pl), e = .returned v ∧ Plc w' W.heap.size W.heap.size v L ∧ L.map Pl.two = layS most (Step.top t) 0 ∧ Below W.heap.size W w'
set_option maxHeartbeats 4000000 in
theorem laid_calls (most : Nat) (hmost : most ≤ 4000) (k m lo hi : Int) (r : List S64) (kids : List NT) (ar ak : Option Addr) (cr ck : Nat) (W : World) (hT : NIn W (· < W.heap.size) (.mk k m lo hi r kids) [.int .i64 k, .int .i64 m, .int .i64 lo, .int .i64 hi, .slice ar r.length cr, .slice ak kids.length ck]) (hn : (NT.mk k m lo hi r kids).nodes < 274877906944) :
  Calls Tryd.prog 44 #[.agg #[.int .i64 k, .int .i64 m, .int .i64 lo, .int .i64 hi, .slice ar r.length cr, .slice ak kids.length ck], .int .i64 most] W (LaidPost W most (.mk k m lo hi r kids)) := by
 have hb : Below W.heap.size W (W.alloc (.cells #[.int .i64 k, .int .i64 m, .int .i64 lo, .int .i64 hi, .slice ar r.length cr, .slice ak kids.length ck] 28)) := (Below.refl _ W).alloc (Nat.le_refl _) _
 have h := lay_calls W.heap.size W.heap.size most (Nat.le_refl _) hmost _ (Step.top (.mk k m lo hi r kids)) _ [] (.slice none 0 0) (W.alloc (.cells #[.int .i64 k, .int .i64 m, .int .i64 lo, .int .i64 hi, .slice ar r.length cr, .slice ak kids.length ck] 28)) (Nat.le_refl _) (hT.keep hb) (Plc.nil _ _ _) hb.size (by show (0 : Int) ≤ 1; decide) (by simp only [Step.top]; omega) (by simp)
 have HH := Lib.hid h
 have HB := Lib.hid hb
 clear h hb
 go_enter Tryd.func44, Tryd.ntmps44
 go_wp2_with fail
 refine HH.out.mono ?_
 rintro e w2 ⟨v, L, rfl, g1, g2, g3, g4⟩
 have HG := Lib.hid (And.intro g1 (And.intro g2 g3))
 clear g1 g2 g3 g4
 go_wp2_with fail
 go_ret
 exact ⟨v, L, rfl, by simpa using HG.out.1, HG.out.2.1, HB.out.trans (⟨HG.out.2.2.os, HG.out.2.2.tape, HG.out.2.2.output, HG.out.2.2.size, fun b hb => HG.out.2.2.block b (Nat.lt_of_lt_of_le hb HB.out.size) (by simp [Value.ownBlock])⟩)⟩
end Go.Proofs.YtamhkdlcoghdbaaDoor.PCls
