/- Out of TGoes (wip/tools/prune2.py): the declarations alone that the texts of the trees name. -/
import Derived.Test.YtamhkdlcoghdbaaKTStill
import Derived.Sort.LoopGhostIn
namespace Go.Proofs.Ytamhkdlcoghdbaa.PCls
open Go.RowKit Go.Shelf Go.Proofs.YtamhkdlcoghdbaaW.PrintWords Go.Proofs.YtamhkdlcoghdbaaW.PrintLast Go.Proofs.YtamhkdlcoghdbaaW.PrintMore
set_option linter.unusedVariables false
set_option linter.unusedSimpArgs false
attribute [local go_sem] Oper.semAt_some
theorem NIn.view {w : World} {P : Nat → Prop} {t : NT} {cs : List Value} (h : NIn w P t cs) : ∃ (ar ak : Option Addr) (cr ck : Nat), cs = [.int .i64 t.k, .int .i64 t.m, .int .i64 t.lo, .int .i64 t.hi, .slice ar t.r.length cr, .slice ak t.kids.length ck] ∧ Kd.C k64 w ar t.r.length t.r ∧ t.r.length ≤ cr ∧ t.r.length < 2097152 := by
  cases h with
  | mk k m lo hi r kids ar ak cr ck csk q1 q2 q3 q4 q5 q6 q7 q8 q9 => exact ⟨ar, ak, cr, ck, rfl, q1, q3, q4⟩
theorem func_not_nil2 (A : Addr) (W : World) : (binOp .eql 50 (.func (.func 87) #[] #[.pointer (some A)]) .nilFunc).run Try.prog W = .ok (.bool false) W := by
  kernel_rfl
set_option maxHeartbeats 16000000 in
set_option maxRecDepth 100000 in
theorem goes_c (k m lo hi : Int) (r : List S64) (kids : List NT) (ar ak : Option Addr) (cr ck : Nat) (g c : Nat) (L : List Pl) (base n0 : Nat) (M : Int) (w : World) (hT : NIn w (· < w.heap.size) (.mk k m lo hi r kids) [.int .i64 k, .int .i64 m, .int .i64 lo, .int .i64 hi, .slice ar r.length cr, .slice ak kids.length ck]) (hn : (NT.mk k m lo hi r kids).nodes < 274877906944) (hP : Plc w base n0 (.slice (some ⟨g, 0, none⟩) L.length c) L) (hn0 : n0 ≤ w.heap.size) (hL : L.map Pl.s = (enters (Step.top (NT.mk k m lo hi r kids)).evs).take 2000) (hM : 1 ≤ M) :
    Calls Try.prog 66 #[.agg #[.int .i64 k, .int .i64 m, .int .i64 lo, .int .i64 hi, .slice ar r.length cr, .slice ak kids.length ck], .slice (some ⟨g, 0, none⟩) L.length c, .int .i64 M] w fun e w' => e = .returned (.bool true) ∧ Below w.heap.size w w' := by
  obtain ⟨xs, hxs⟩ : ∃ xs, xs = (enters (Step.top (NT.mk k m lo hi r kids)).evs).take 2000 := ⟨_, rfl⟩
  rw [← hxs] at hL
  have HXS := Lib.hid hxs
  have HL := Lib.hid hL
  have hxl : xs.length = L.length := by rw [← hL, List.length_map]
  have hx2 : xs.length ≤ 2000 := by rw [hxs, List.length_take]; omega
  have HXL := Lib.hid hxl
  have HX2 := Lib.hid hx2
  have HT := Lib.hid hT
  have HN := Lib.hid hn
  have HP := Lib.hid hP
  have HN0 := Lib.hid hn0
  have HM := Lib.hid hM
  clear hT hn hP hn0 hL hM hxs hxl hx2
  obtain ⟨W4, hW4⟩ : ∃ W4, W4 = (((w.alloc (.cells #[.int .i64 k, .int .i64 m, .int .i64 lo, .int .i64 hi, .slice ar r.length cr, .slice ak kids.length ck] 44)).alloc (.cells #[.slice (some ⟨g, 0, none⟩) L.length c] 59)).alloc (.cells #[.int .i64 M] 3)).alloc (.cells #[.bool false] 4) := ⟨_, rfl⟩
  have hat : ∀ (A : World) (o : Obj) (b : Nat), b = A.heap.size → (A.alloc o).heap[b]? = some o := fun A o b h => by rw [h]; exact World.alloc_heap_new A o
  have hup : ∀ (A : World) (o x : Obj) (b : Nat), A.heap[b]? = some x → (A.alloc o).heap[b]? = some x := fun A o x b h => (Below.heap_alloc A o b (Array.getElem?_eq_some_iff.1 h).1).trans h
  have hs4 : W4.heap.size = w.heap.size + 4 := by rw [hW4]; simp
  have hb4 : Below w.heap.size w W4 := by rw [hW4]; exact ((((Below.refl _ w).alloc (Nat.le_refl _) _).alloc (by simp) _).alloc (by simp; omega) _).alloc (by simp; omega) _
  have h1 : W4.heap[w.heap.size + 1]? = some (.cells #[.slice (some ⟨g, 0, none⟩) L.length c] 59) := by rw [hW4]; exact hup _ _ _ _ (hup _ _ _ _ (hat _ _ _ (by simp)))
  have h2 : W4.heap[w.heap.size + 2]? = some (.cells #[.int .i64 M] 3) := by rw [hW4]; exact hup _ _ _ _ (hat _ _ _ (by simp))
  have h3 : W4.heap[w.heap.size + 3]? = some (.cells #[.bool false] 4) := by rw [hW4]; exact hat _ _ _ (by simp)
  have HW4 := Lib.hid hW4
  refine (callsIn_wide (n := 9)).1 ?_
  refine callsIn_of_wp_marks Try.func66 rfl trivial ?_ rfl
  simp only [Try.ntmps66, List.size_toArray, List.length_cons, List.length_nil, Nat.reduceAdd, Nat.reduceSub, Array.replicate_succ, Array.replicate_zero, List.push_toArray, List.append_toArray, List.nil_append, List.cons_append]
  clear hW4
  gi_wp2_with fail
  rw [← HW4.out]
  refine ⟨trivial, ?_⟩
  refine (callsIn_wide.2 (all_calls k m lo hi ar ak r.length cr kids.length ck _)).mono ?_
  rintro e w5 ⟨rfl, rfl⟩
  have hnn := fun W => func_not_nil2 ⟨w.heap.size + 4, 0, none⟩ W
  gi_wp2_with fail
  clear hnn
  obtain ⟨W6, hW6⟩ : ∃ W6, W6 = (W4.alloc (.cells #[.int .i64 k, .int .i64 m, .int .i64 lo, .int .i64 hi, .slice ar r.length cr, .slice ak kids.length ck] 44)).alloc (.cells #[.int .i64 0] 3) := ⟨_, rfl⟩
  rw [← hW6]
  have hs6 : W6.heap.size = w.heap.size + 6 := by rw [hW6]; simp [hs4]
  have hb46 : Below W4.heap.size W4 W6 := by rw [hW6]; exact ((Below.refl _ W4).alloc (Nat.le_refl _) _).alloc (by simp) _
  have hn6 : W6.heap[w.heap.size + 4]? = some (.cells #[.int .i64 k, .int .i64 m, .int .i64 lo, .int .i64 hi, .slice ar r.length cr, .slice ak kids.length ck] 44 (0, 0)) := by rw [hW6]; exact hup _ _ _ _ (hat _ _ _ (by omega))
  have hi6 : Boxed W6 (w.heap.size + 5) 3 (.int .i64 0) := by rw [hW6]; exact hat _ _ _ (by simp [hs4])
  have HL6 := Lib.hid ((hb46.block _ (by omega)).trans h1)
  have HM6 := Lib.hid ((hb46.block _ (by omega)).trans h2)
  have HO6 := Lib.hid ((hb46.block _ (by omega)).trans h3)
  have HB6 := Lib.hid (hb4.trans (hb46.mono (by omega)))
  have HS6 := Lib.hid hs6
  have HN6 := Lib.hid hn6
  have HI6 := Lib.hid hi6
  clear hat hup hb46 hn6 hi6 hW6 hs6 hs4 hb4 h1 h2 h3 HW4
  simp only [Nat.add_assoc, Nat.reduceAdd]
  refine range_law (n := 9) (lb := #[.pointer (some ⟨w.heap.size + 4, 0, none⟩)]) rfl (fun args w => enters_ Try.func87 (by kernel_rfl) rfl args w) (fun pre _ => !decide ((pre.length : Int) + 1 = M)) (w.heap.size + 5) ?hlo xs (EA (w.heap.size + 8)) ?hEs
    (fun x vs a' W => ∃ (A : Option Addr) (cc Bx : Nat), w.heap.size + 8 ≤ Bx ∧ W.heap[Bx]? = some (.cells #[.int .i64 x.n.k, .int .i64 x.n.m, .int .i64 x.n.lo, .int .i64 x.n.hi, .slice A x.n.r.length cc, .slice none 0 0] 44 (0, 0)) ∧ Kd.R k64 64 W (w.heap.size + 8) (fun _ => True) (.slice A x.n.r.length cc) x.n.r ∧ a' = { tmps := (.agg #[.int .i64 k, .int .i64 m, .int .i64 lo, .int .i64 hi, .slice ar r.length cr, .slice ak kids.length ck] :: .slice (some ⟨g, 0, none⟩) L.length c :: .int .i64 M :: .pointer (some ⟨w.heap.size, 0, none⟩) :: .pointer (some ⟨w.heap.size + 1, 0, none⟩) :: .pointer (some ⟨w.heap.size + 2, 0, none⟩) :: .pointer (some ⟨w.heap.size + 3, 0, none⟩) :: .func (.func 87) #[] #[.pointer (some ⟨w.heap.size + 4, 0, none⟩)] :: .pointer (some ⟨w.heap.size + 5, 0, none⟩) :: .int .i64 x.deep :: .pointer (some ⟨Bx, 0, none⟩) :: undef :: undef :: .agg #[.int .i64 k, .int .i64 m, .int .i64 lo, .int .i64 hi, .slice ar r.length cr, .slice ak kids.length ck] :: .func (.func 87) #[] #[.pointer (some ⟨w.heap.size + 4, 0, none⟩)] :: .func (.func 87) #[] #[.pointer (some ⟨w.heap.size + 4, 0, none⟩)] :: .bool false :: .func (.func 87) #[] #[.pointer (some ⟨w.heap.size + 4, 0, none⟩)] :: .int .i64 x.deep :: .agg #[.int .i64 x.n.k, .int .i64 x.n.m, .int .i64 x.n.lo, .int .i64 x.n.hi, .slice A x.n.r.length cc, .slice none 0 0] :: undef :: undef :: undef :: undef :: undef :: undef :: undef :: undef :: undef :: undef :: undef :: undef :: undef :: undef :: undef :: undef :: undef :: undef :: undef :: undef :: undef :: undef :: undef :: undef :: undef :: undef :: undef :: undef :: undef :: undef :: undef :: undef :: undef :: undef :: undef :: undef :: undef :: undef :: undef :: undef :: undef :: undef :: undef :: undef :: undef :: undef :: undef :: undef :: undef :: undef :: undef :: undef :: undef :: undef :: undef :: undef :: undef :: undef :: undef :: undef :: undef :: undef :: undef :: undef :: undef :: undef :: undef :: undef :: undef :: undef :: undef :: undef :: undef :: undef :: undef :: undef :: undef :: undef :: undef :: undef :: undef :: undef :: undef :: undef :: undef :: undef :: undef :: undef :: undef :: undef :: undef :: undef :: undef :: undef :: undef :: undef :: undef :: undef :: undef :: undef :: undef :: undef :: [] : List Value).toArray, defers := [] }) ?hQ1
    (fun pre W => Boxed W (w.heap.size + 5) 3 (.int .i64 (pre.length : Int)) ∧ Below (w.heap.size + 5) W6 W ∧ (pre.length : Int) < M) (fun c pre W => c = Code.exit 0 ∧ Boxed W (w.heap.size + 5) 3 (.int .i64 (pre.length : Int)) ∧ Below (w.heap.size + 5) W6 W ∧ (pre.length : Int) = M) ?hI ?hIx ?h0 ?hseq ?hassign ?hbody ?hdone ?hstop
  case hlo => rw [HS6.out]; omega
  case hEs => rintro x W vs ⟨A, c, rfl, _⟩; rfl
  case hQ1 =>
    rintro x vs a' W W' ⟨A, cc, Bx, h1, h2, h4, h3⟩ hk
    exact ⟨A, cc, Bx, h1, (hk _ (by rw [HS6.out]; omega)).trans h2, Kd.R_mono (Kd.R_move (Kd.R_bound h4) (fun q hq => hk q (by rw [HS6.out]; have := hq.2.1; omega))) (fun _ _ => trivial), h3⟩
  case hI =>
    intro s A B h hb
    have e := HS6.out
    exact ⟨(hb.block _ (by omega)).trans h.1, h.2.1.trans (hb.mono (by omega)), h.2.2⟩
  case hIx =>
    intro c s A B h hb
    have e := HS6.out
    exact ⟨h.1, (hb.block _ (by omega)).trans h.2.1, h.2.2.1.trans (hb.mono (by omega)), h.2.2.2⟩
  case h0 => exact ⟨HI6.out, Below.refl _ _, by have := HM.out; simp only [List.length_nil]; omega⟩
  case hseq =>
    intro W1 hb1 hs1
    have e := HS6.out
    rw [e] at hs1
    have hwb : Below w.heap.size w W1 := HB6.out.trans (hb1.mono (by omega))
    have := all_seq (.mk k m lo hi r kids) _ (w.heap.size + 5) (w.heap.size + 4) W1 (fun pre _ => !decide ((pre.length : Int) + 1 = M)) (by omega) ((HT.out.move (fun b h => hwb.block b h)).mono (fun b hb => by omega)) ((hb1.block _ (by omega)).trans HN6.out) (by have := HN.out; omega)
    rw [hs1, ← HXS.out] at this
    exact this
  case hassign =>
    rintro l pre x vs W K hpre hI ⟨A, cc, rfl, hR⟩ hs hK
    have e := HS6.out
    rw [e] at hs
    have hb : Below W.heap.size W (W.alloc (.cells #[.int .i64 x.n.k, .int .i64 x.n.m, .int .i64 x.n.lo, .int .i64 x.n.hi, .slice A x.n.r.length cc, .slice none 0 0] 44)) := (Below.refl _ W).alloc (Nat.le_refl _) _
    have HK := Lib.hid hK
    have HH := Lib.hid (show _ from HK.out { tmps := (.agg #[.int .i64 k, .int .i64 m, .int .i64 lo, .int .i64 hi, .slice ar r.length cr, .slice ak kids.length ck] :: .slice (some ⟨g, 0, none⟩) L.length c :: .int .i64 M :: .pointer (some ⟨w.heap.size, 0, none⟩) :: .pointer (some ⟨w.heap.size + 1, 0, none⟩) :: .pointer (some ⟨w.heap.size + 2, 0, none⟩) :: .pointer (some ⟨w.heap.size + 3, 0, none⟩) :: .func (.func 87) #[] #[.pointer (some ⟨w.heap.size + 4, 0, none⟩)] :: .pointer (some ⟨w.heap.size + 5, 0, none⟩) :: .int .i64 x.deep :: .pointer (some ⟨W.heap.size, 0, none⟩) :: undef :: undef :: .agg #[.int .i64 k, .int .i64 m, .int .i64 lo, .int .i64 hi, .slice ar r.length cr, .slice ak kids.length ck] :: .func (.func 87) #[] #[.pointer (some ⟨w.heap.size + 4, 0, none⟩)] :: .func (.func 87) #[] #[.pointer (some ⟨w.heap.size + 4, 0, none⟩)] :: .bool false :: .func (.func 87) #[] #[.pointer (some ⟨w.heap.size + 4, 0, none⟩)] :: .int .i64 x.deep :: .agg #[.int .i64 x.n.k, .int .i64 x.n.m, .int .i64 x.n.lo, .int .i64 x.n.hi, .slice A x.n.r.length cc, .slice none 0 0] :: undef :: undef :: undef :: undef :: undef :: undef :: undef :: undef :: undef :: undef :: undef :: undef :: undef :: undef :: undef :: undef :: undef :: undef :: undef :: undef :: undef :: undef :: undef :: undef :: undef :: undef :: undef :: undef :: undef :: undef :: undef :: undef :: undef :: undef :: undef :: undef :: undef :: undef :: undef :: undef :: undef :: undef :: undef :: undef :: undef :: undef :: undef :: undef :: undef :: undef :: undef :: undef :: undef :: undef :: undef :: undef :: undef :: undef :: undef :: undef :: undef :: undef :: undef :: undef :: undef :: undef :: undef :: undef :: undef :: undef :: undef :: undef :: undef :: undef :: undef :: undef :: undef :: undef :: undef :: undef :: undef :: undef :: undef :: undef :: undef :: undef :: undef :: undef :: undef :: undef :: undef :: undef :: undef :: undef :: undef :: undef :: undef :: undef :: undef :: undef :: undef :: undef :: [] : List Value).toArray, defers := [] } _ (KeptBut.of_below hb) ⟨boxed_keep hI.1 hb, hI.2.1.trans (hb.mono (by omega)), hI.2.2⟩ ⟨A, cc, W.heap.size, by omega, World.alloc_heap_new W _, Kd.R_below hR hb, rfl⟩)
    clear hK HK hb hR hI hs e
    gi_wp2
    exact HH.out
  case hbody =>
    rintro l pre x vs a' W hpre ⟨hbi, hbel, hlM⟩ ⟨A, cc, Bx, hBx, hxb, hR, rfl⟩ hs
    have e6 := HS6.out
    rw [e6] at hs
    have hpl : pre.length < xs.length := by have := hpre.length_le; simp only [List.length_append, List.length_cons, List.length_nil] at this; omega
    have hxp : xs[pre.length]? = some x := by
      obtain ⟨u, hu⟩ := hpre
      rw [← hu, List.append_assoc, List.getElem?_append_right (Nat.le_refl _)]; simp
    obtain ⟨j, hj⟩ : ∃ j, j = pre.length := ⟨_, rfl⟩
    rw [← hj] at hpl hxp hbi hlM
    have hjL : j < L.length := by rw [← HXL.out]; exact hpl
    obtain ⟨pp, hpp⟩ : ∃ pp, L[j]? = some pp := ⟨_, List.getElem?_eq_getElem hjL⟩
    have hps : pp.s = x := by
      have := HL.out
      rw [← this, List.getElem?_map, hpp] at hxp
      simpa using hxp
    have hNp := HP.out.nin pp (List.mem_of_getElem? hpp)
    rw [hps] at hNp
    have hgl := HP.out.own.lt g rfl
    have hPW : Plc W base n0 (.slice (some ⟨g, 0, none⟩) L.length c) L := HP.out.kept (fun b hb => (hbel.block b (by rcases hb with h | h; have := HN0.out; omega; have := (HP.out.own.lt b h).2; omega)).trans (HB6.out.block b (by rcases hb with h | h; have := HN0.out; omega; exact (HP.out.own.lt b h).2)))
    obtain ⟨qr, qk, qcr, qck, hcs, hC, hqc, hql⟩ := NIn.view hNp
    have hwW : Below w.heap.size w W := HB6.out.trans (hbel.mono (by omega))
    have hCW := Kd.C_below hC hwW
    obtain ⟨_, hcc, hCR⟩ := Kd.R_reads' hR
    have hlc : ∀ (i : Nat) (u : Value), ([.int .i64 x.n.k, .int .i64 x.n.m, .int .i64 x.n.lo, .int .i64 x.n.hi, .slice qr x.n.r.length qcr, .slice qk x.n.kids.length qck, .int .i64 x.deep, .int .i64 x.around, .bool x.first, .bool x.last, .bool x.branch, .int .i64 (pp.en : Int)] : List Value)[i]? = some u → W.cell? ⟨g, j * 12 + i, none⟩ = some u := fun i u hu => hPW.cell hpp (i := i) (by show (pp.cs ++ tailC pp.s pp.en)[i]? = _; rw [hcs, hps]; exact hu)
    have hgW : g < W.heap.size := by have := hgl.2; have := hwW.size; omega
    obtain ⟨k3, f3⟩ := (alike_ends x.n.r x.n.r (by omega)).get
    rw [decide_eq_true rfl] at f3
    have hAA : x.n.r.length = 0 ∨ ∃ (gg : Nat) (cells : Array Value), A = some ⟨gg, 0, none⟩ ∧ w.heap.size + 8 ≤ gg ∧ W.heap[gg]? = some (.cells cells 64 (0, 0)) := by
      obtain ⟨inner, ho⟩ := Kd.R_own hR
      rcases ho.2 with ⟨_, e0⟩ | ⟨gg, cap, cur, e, hb, hg, _⟩
      · exact .inl e0
      · simp only [Value.slice.injEq, true_and] at e
        exact .inr ⟨gg, cur, e.1, hb, hg⟩
    have hlb := (hbel.block (w.heap.size + 1) (by omega)).trans HL6.out
    have hmb := (hbel.block (w.heap.size + 2) (by omega)).trans HM6.out
    have hBxW : Bx < W.heap.size := (Array.getElem?_eq_some_iff.1 hxb).1
    have ci := hbi.cell
    have cl := cell_heap (i := 0) hlb rfl
    have cm := cell_heap (i := 0) hmb rfl
    have f1 : ¬ (L.length : Int) ≤ (j : Int) := by omega
    have f2 : ¬ M ≤ (j : Int) := by omega
    have f3' : (j : Int) < (L.length : Int) := by omega
    have HF := Lib.hid f3
    have HBI := Lib.hid hbi
    have HBE := Lib.hid hbel
    have HXB := Lib.hid hxb
    have HR := Lib.hid hR
    have HC := Lib.hid (And.intro hCW (And.intro hqc (And.intro hCR hcc)))
    have HLC := Lib.hid hlc
    have HLB := Lib.hid hlb
    have HMB := Lib.hid hmb
    have HGW := Lib.hid hgW
    have HAA := Lib.hid hAA
    have HBX := Lib.hid (And.intro hBx hBxW)
    have HS := Lib.hid hs
    have HJ := Lib.hid hj
    have HQL := Lib.hid hql
    clear f3 hbi hbel hxb hR hCW hqc hCR hcc hlc hlb hmb hgW hAA hBx hBxW hs hj hcs hC hql hPW hNp hps hpp hpl hxp hwW hgl hpre e6
    gi_wp2_with fail
    clear ci cl cm f1 f2
    have HBa := Lib.hid (show Below W.heap.size W W.drew from (Below.refl _ W).drew)
    refine startIn_ (n := 10) (S := fun w' => Below W.heap.size W w') (ds := []) (by kernel_rfl) #[Z,Z,Z,Z,Z,Z,Z,Z,Z,Z] (by kernel_rfl) rfl rfl HBa.out (fun hHeld => ?_)
    refine with_self (fun HT_ => ?_)
    generalize W.drew = w_d at HBa hHeld ⊢
    refine pure_ (i := 0) (N := some 29) (v := ?_) (a' := ?_) #[I,Z,Z,Z,Z,Z,Z,Z,Z,Z] rfl rfl (any_of HT_.out (by kernel_rfl)) (fun _ _ _ h => h) (Or.inl ⟨by rfl, ?_⟩) ?_ ?_
    rotate_left
    · intro w'
      go_simp
      with_reducible rfl
    rotate_left
    · simp only [Act.put, pu_, pz_, ps_, i64_w, i32_w]
      rfl
    refine take_ (i := 1) (N := some 30) (v := ?_) (a' := ?_) #[I,I,Z,Z,Z,Z,Z,Z,Z,Z] rfl rfl (take_of HT_.out (by kernel_rfl)) (fun _ _ _ h => h) (Or.inl ⟨by rfl, ?_⟩) hHeld ?_ ?_
    rotate_left
    · intro w' hS
      have q_ := (hS.block _ HBX.out.2).trans HXB.out
      have x0 := cell_heap (i := 0) q_ rfl
      have x1 := cell_heap (i := 1) q_ rfl
      have x2 := cell_heap (i := 2) q_ rfl
      have x3 := cell_heap (i := 3) q_ rfl
      have x4 := cell_heap (i := 4) q_ rfl
      have x5 := cell_heap (i := 5) q_ rfl
      clear q_
      clear hS
      go_simp
      with_reducible rfl
    rotate_left
    · simp only [Act.put, pu_, pz_, ps_, i64_w, i32_w]
      rfl
    refine take_ (i := 2) (N := some 31) (v := ?_) (a' := ?_) #[I,I,I,Z,Z,Z,Z,Z,Z,Z] rfl rfl (take_of HT_.out (by kernel_rfl)) (fun _ _ _ h => h) (Or.inl ⟨by rfl, ?_⟩) hHeld ?_ ?_
    rotate_left
    · intro w' hS
      have cl := cell_heap (i := 0) ((hS.block _ (by have := HS.out; omega)).trans HLB.out) rfl
      clear hS
      go_simp
      with_reducible rfl
    rotate_left
    · simp only [Act.put, pu_, pz_, ps_, i64_w, i32_w]
      rfl
    refine take_ (i := 3) (N := some 32) (v := ?_) (a' := ?_) #[I,I,I,I,Z,Z,Z,Z,Z,Z] rfl rfl (take_of HT_.out (by kernel_rfl)) (fun _ _ _ h => h) (Or.inl ⟨by rfl, ?_⟩) hHeld ?_ ?_
    rotate_left
    · intro w' hS
      have ci := (boxed_keep HBI.out hS).cell
      clear hS
      go_simp
      with_reducible rfl
    rotate_left
    · simp only [Act.put, pu_, pz_, ps_, i64_w, i32_w]
      rfl
    refine pure_ (i := 4) (N := some 33) (v := ?_) (a' := ?_) #[I,I,I,I,I,Z,Z,Z,Z,Z] rfl rfl (any_of HT_.out (by kernel_rfl)) (fun _ _ _ h => h) (Or.inl ⟨by rfl, ?_⟩) ?_ ?_
    rotate_left
    · intro w'
      go_simp
      with_reducible rfl
    rotate_left
    · simp only [Act.put, pu_, pz_, ps_, i64_w, i32_w]
      rfl
    refine pure_ (i := 5) (N := some 34) (v := ?_) (a' := ?_) #[I,I,I,I,I,I,Z,Z,Z,Z] rfl rfl (any_of HT_.out (by kernel_rfl)) (fun _ _ _ h => h) (Or.inl ⟨by rfl, ?_⟩) ?_ ?_
    rotate_left
    · intro w'
      go_simp
      with_reducible rfl
    rotate_left
    · simp only [Act.put, pu_, pz_, ps_, i64_w, i32_w]
      rfl
    refine pure_ (i := 6) (N := some 35) (v := ?_) (a' := ?_) #[I,I,I,I,I,I,I,Z,Z,Z] rfl rfl (any_of HT_.out (by kernel_rfl)) (fun _ _ _ h => h) (Or.inl ⟨by rfl, ?_⟩) ?_ ?_
    rotate_left
    · intro w'
      go_simp
      with_reducible rfl
    rotate_left
    · simp only [Act.put, pu_, pz_, ps_, i64_w, i32_w]
      rfl
    refine take_ (i := 7) (N := some 36) (v := ?_) (a' := ?_) #[I,I,I,I,I,I,I,I,Z,Z] rfl rfl (take_of HT_.out (by kernel_rfl)) (fun _ _ _ h => h) (Or.inl ⟨by rfl, ?_⟩) hHeld ?_ ?_
    rotate_left
    · intro w' hS
      have hq := fun (i : Nat) (u : Value) (hu : ([.int .i64 x.n.k, .int .i64 x.n.m, .int .i64 x.n.lo, .int .i64 x.n.hi, .slice qr x.n.r.length qcr, .slice qk x.n.kids.length qck, .int .i64 x.deep, .int .i64 x.around, .bool x.first, .bool x.last, .bool x.branch, .int .i64 (pp.en : Int)] : List Value)[i]? = some u) => (World.cell?_of_block (w := W) (a := ⟨g, j * 12 + i, none⟩) (hS.block g HGW.out)).trans (HLC.out i u hu)
      have y0 := hq 0 _ rfl
      rw [Nat.add_zero] at y0
      have y1 := hq 1 _ rfl
      have y2 := hq 2 _ rfl
      have y3 := hq 3 _ rfl
      have y4 := hq 4 _ rfl
      have y5 := hq 5 _ rfl
      have y6 := hq 6 _ rfl
      clear hq
      clear hS
      go_simp
      with_reducible rfl
    rotate_left
    · simp only [Act.put, pu_, pz_, ps_, i64_w, i32_w]
      rfl
    refine one_ (i := 8) (N := some 37) #[I,I,I,I,I,I,I,I,I,Z] rfl rfl (one_of HT_.out (by kernel_rfl)) (by decide) (fun K hK => ?_)
    refine goes_ Try.func29 (by kernel_rfl) rfl #[.slice A x.n.r.length cc, .slice qr x.n.r.length qcr] (by rfl) rfl rfl (by (try simp only [List.map_toArray, List.map_cons, List.map_nil]); first | done | rfl) ?_
    refine (dredgeref06_Alike.calls k3 A cc x.n.r qr qcr x.n.r true w_d (Kd.C_below HC.out.2.2.1 HBa.out) HC.out.2.2.2 (Kd.C_below HC.out.1 HBa.out) HC.out.2.1 HF.out).mono ?_
    rintro e wx ⟨rfl, hD⟩
    have HB_wx := Lib.hid (HBa.out.trans ((below_drawn5 (Below.refl w_d.heap.size w_d) hD).mono HBa.out.size))
    clear hD
    refine ⟨_, rfl, ?_⟩
    clear hHeld
    refine hK.out _ _ HB_wx.out (fun hHeld => ?_)
    clear hK K
    refine norm_ (a' := ?_) ?_ ?_
    rotate_left
    · show Act.put _ (some 37) _ = _
      simp only [Act.put, pu_, pz_, ps_, i64_w, i32_w]
      rfl
    refine pure_ (i := 9) (N := some 11) (v := ?_) (a' := ?_) #[I,I,I,I,I,I,I,I,I,I] rfl rfl (any_of HT_.out (by kernel_rfl)) (fun _ _ _ h => h) (Or.inl ⟨by rfl, ?_⟩) ?_ ?_
    rotate_left
    · intro w'
      go_simp
      with_reducible rfl
    rotate_left
    · simp only [Act.put, pu_, pz_, ps_, i64_w, i32_w]
      rfl
    refine done_ (done_of HT_.out (by kernel_rfl)) ?_
    clear HT_ hHeld
    simp only [onlyNormal_]
    gi_wp2_with fail
    have HBb := Lib.hid (show Below wx.heap.size wx wx.drew from (Below.refl _ wx).drew)
    refine startIn_ (n := 61) (S := fun w' => Below wx.heap.size wx w') (ds := []) (by kernel_rfl) #[Z,Z,Z,Z,Z,Z,Z,Z,Z,Z,Z,Z,Z,Z,Z,Z,Z,Z,Z,Z,Z,Z,Z,Z,Z,Z,Z,Z,Z,Z,Z,Z,Z,Z,Z,Z,Z,Z,Z,Z,Z,Z,Z,Z,Z,Z,Z,Z,Z,Z,Z,Z,Z,Z,Z,Z,Z,Z,Z,Z,Z] (by kernel_rfl) rfl rfl HBb.out (fun hHeld => ?_)
    refine with_self (fun HT_ => ?_)
    generalize wx.drew = w_e at HBb hHeld ⊢
    refine pure_ (i := 0) (N := some 38) (v := ?_) (a' := ?_) #[I,Z,Z,Z,Z,Z,Z,Z,Z,Z,Z,Z,Z,Z,Z,Z,Z,Z,Z,Z,Z,Z,Z,Z,Z,Z,Z,Z,Z,Z,Z,Z,Z,Z,Z,Z,Z,Z,Z,Z,Z,Z,Z,Z,Z,Z,Z,Z,Z,Z,Z,Z,Z,Z,Z,Z,Z,Z,Z,Z,Z] rfl rfl (any_of HT_.out (by kernel_rfl)) (fun _ _ _ h => h) (Or.inl ⟨by rfl, ?_⟩) ?_ ?_
    rotate_left
    · intro w'
      go_simp
      with_reducible rfl
    rotate_left
    · simp only [Act.put, pu_, pz_, ps_, i64_w, i32_w]
      rfl
    refine take_ (i := 1) (N := some 39) (v := ?_) (a' := ?_) #[I,I,Z,Z,Z,Z,Z,Z,Z,Z,Z,Z,Z,Z,Z,Z,Z,Z,Z,Z,Z,Z,Z,Z,Z,Z,Z,Z,Z,Z,Z,Z,Z,Z,Z,Z,Z,Z,Z,Z,Z,Z,Z,Z,Z,Z,Z,Z,Z,Z,Z,Z,Z,Z,Z,Z,Z,Z,Z,Z,Z] rfl rfl (take_of HT_.out (by kernel_rfl)) (fun _ _ _ h => h) (Or.inl ⟨by rfl, ?_⟩) hHeld ?_ ?_
    rotate_left
    · intro w' hS
      have hS := HB_wx.out.trans (hS.mono HB_wx.out.size)
      have cl := cell_heap (i := 0) ((hS.block _ (by have := HS.out; omega)).trans HLB.out) rfl
      clear hS
      go_simp
      with_reducible rfl
    rotate_left
    · simp only [Act.put, pu_, pz_, ps_, i64_w, i32_w]
      rfl
    refine take_ (i := 2) (N := some 40) (v := ?_) (a' := ?_) #[I,I,I,Z,Z,Z,Z,Z,Z,Z,Z,Z,Z,Z,Z,Z,Z,Z,Z,Z,Z,Z,Z,Z,Z,Z,Z,Z,Z,Z,Z,Z,Z,Z,Z,Z,Z,Z,Z,Z,Z,Z,Z,Z,Z,Z,Z,Z,Z,Z,Z,Z,Z,Z,Z,Z,Z,Z,Z,Z,Z] rfl rfl (take_of HT_.out (by kernel_rfl)) (fun _ _ _ h => h) (Or.inl ⟨by rfl, ?_⟩) hHeld ?_ ?_
    rotate_left
    · intro w' hS
      have hS := HB_wx.out.trans (hS.mono HB_wx.out.size)
      have ci := (boxed_keep HBI.out hS).cell
      clear hS
      go_simp
      with_reducible rfl
    rotate_left
    · simp only [Act.put, pu_, pz_, ps_, i64_w, i32_w]
      rfl
    refine pure_ (i := 3) (N := some 41) (v := ?_) (a' := ?_) #[I,I,I,I,Z,Z,Z,Z,Z,Z,Z,Z,Z,Z,Z,Z,Z,Z,Z,Z,Z,Z,Z,Z,Z,Z,Z,Z,Z,Z,Z,Z,Z,Z,Z,Z,Z,Z,Z,Z,Z,Z,Z,Z,Z,Z,Z,Z,Z,Z,Z,Z,Z,Z,Z,Z,Z,Z,Z,Z,Z] rfl rfl (any_of HT_.out (by kernel_rfl)) (fun _ _ _ h => h) (Or.inl ⟨by rfl, ?_⟩) ?_ ?_
    rotate_left
    · intro w'
      go_simp
      with_reducible rfl
    rotate_left
    · simp only [Act.put, pu_, pz_, ps_, i64_w, i32_w]
      rfl
    refine pure_ (i := 4) (N := some 42) (v := ?_) (a' := ?_) #[I,I,I,I,I,Z,Z,Z,Z,Z,Z,Z,Z,Z,Z,Z,Z,Z,Z,Z,Z,Z,Z,Z,Z,Z,Z,Z,Z,Z,Z,Z,Z,Z,Z,Z,Z,Z,Z,Z,Z,Z,Z,Z,Z,Z,Z,Z,Z,Z,Z,Z,Z,Z,Z,Z,Z,Z,Z,Z,Z] rfl rfl (any_of HT_.out (by kernel_rfl)) (fun _ _ _ h => h) (Or.inl ⟨by rfl, ?_⟩) ?_ ?_
    rotate_left
    · intro w'
      go_simp
      with_reducible rfl
    rotate_left
    · simp only [Act.put, pu_, pz_, ps_, i64_w, i32_w]
      rfl
    refine take_ (i := 5) (N := some 43) (v := ?_) (a' := ?_) #[I,I,I,I,I,I,Z,Z,Z,Z,Z,Z,Z,Z,Z,Z,Z,Z,Z,Z,Z,Z,Z,Z,Z,Z,Z,Z,Z,Z,Z,Z,Z,Z,Z,Z,Z,Z,Z,Z,Z,Z,Z,Z,Z,Z,Z,Z,Z,Z,Z,Z,Z,Z,Z,Z,Z,Z,Z,Z,Z] rfl rfl (take_of HT_.out (by kernel_rfl)) (fun _ _ _ h => h) (Or.inl ⟨by rfl, ?_⟩) hHeld ?_ ?_
    rotate_left
    · intro w' hS
      have hS := HB_wx.out.trans (hS.mono HB_wx.out.size)
      have hq := fun (i : Nat) (u : Value) (hu : ([.int .i64 x.n.k, .int .i64 x.n.m, .int .i64 x.n.lo, .int .i64 x.n.hi, .slice qr x.n.r.length qcr, .slice qk x.n.kids.length qck, .int .i64 x.deep, .int .i64 x.around, .bool x.first, .bool x.last, .bool x.branch, .int .i64 (pp.en : Int)] : List Value)[i]? = some u) => (World.cell?_of_block (w := W) (a := ⟨g, j * 12 + i, none⟩) (hS.block g HGW.out)).trans (HLC.out i u hu)
      have y0 := hq 0 _ rfl
      rw [Nat.add_zero] at y0
      have y1 := hq 1 _ rfl
      have y2 := hq 2 _ rfl
      have y3 := hq 3 _ rfl
      have y4 := hq 4 _ rfl
      have y5 := hq 5 _ rfl
      have y6 := hq 6 _ rfl
      clear hq
      clear hS
      go_simp
      with_reducible rfl
    rotate_left
    · simp only [Act.put, pu_, pz_, ps_, i64_w, i32_w]
      rfl
    refine pure_ (i := 6) (N := some 44) (v := ?_) (a' := ?_) #[I,I,I,I,I,I,I,Z,Z,Z,Z,Z,Z,Z,Z,Z,Z,Z,Z,Z,Z,Z,Z,Z,Z,Z,Z,Z,Z,Z,Z,Z,Z,Z,Z,Z,Z,Z,Z,Z,Z,Z,Z,Z,Z,Z,Z,Z,Z,Z,Z,Z,Z,Z,Z,Z,Z,Z,Z,Z,Z] rfl rfl (any_of HT_.out (by kernel_rfl)) (fun _ _ _ h => h) (Or.inl ⟨by rfl, ?_⟩) ?_ ?_
    rotate_left
    · intro w'
      have hz0 := bne_self_eq_false x.deep
      have hz1 := bne_self_eq_false x.n.k
      have hz2 := bne_self_eq_false x.n.m
      have hz3 := bne_self_eq_false x.n.lo
      have hz4 := bne_self_eq_false x.n.hi
      go_simp
      with_reducible rfl
    rotate_left
    · simp only [Act.put, pu_, pz_, ps_, i64_w, i32_w]
      rfl
    refine pure_ (i := 7) (N := some 45) (v := ?_) (a' := ?_) #[I,I,I,I,I,I,I,I,Z,Z,Z,Z,Z,Z,Z,Z,Z,Z,Z,Z,Z,Z,Z,Z,Z,Z,Z,Z,Z,Z,Z,Z,Z,Z,Z,Z,Z,Z,Z,Z,Z,Z,Z,Z,Z,Z,Z,Z,Z,Z,Z,Z,Z,Z,Z,Z,Z,Z,Z,Z,Z] rfl rfl (any_of HT_.out (by kernel_rfl)) (fun _ _ _ h => h) (Or.inl ⟨by rfl, ?_⟩) ?_ ?_
    rotate_left
    · intro w'
      go_simp
      with_reducible rfl
    rotate_left
    · simp only [Act.put, pu_, pz_, ps_, i64_w, i32_w]
      rfl
    refine pure_ (i := 8) (N := some 46) (v := ?_) (a' := ?_) #[I,I,I,I,I,I,I,I,I,Z,Z,Z,Z,Z,Z,Z,Z,Z,Z,Z,Z,Z,Z,Z,Z,Z,Z,Z,Z,Z,Z,Z,Z,Z,Z,Z,Z,Z,Z,Z,Z,Z,Z,Z,Z,Z,Z,Z,Z,Z,Z,Z,Z,Z,Z,Z,Z,Z,Z,Z,Z] rfl rfl (any_of HT_.out (by kernel_rfl)) (fun _ _ _ h => h) (Or.inl ⟨by rfl, ?_⟩) ?_ ?_
    rotate_left
    · intro w'
      go_simp
      with_reducible rfl
    rotate_left
    · simp only [Act.put, pu_, pz_, ps_, i64_w, i32_w]
      rfl
    refine take_ (i := 9) (N := some 47) (v := ?_) (a' := ?_) #[I,I,I,I,I,I,I,I,I,I,Z,Z,Z,Z,Z,Z,Z,Z,Z,Z,Z,Z,Z,Z,Z,Z,Z,Z,Z,Z,Z,Z,Z,Z,Z,Z,Z,Z,Z,Z,Z,Z,Z,Z,Z,Z,Z,Z,Z,Z,Z,Z,Z,Z,Z,Z,Z,Z,Z,Z,Z] rfl rfl (take_of HT_.out (by kernel_rfl)) (fun _ _ _ h => h) (Or.inl ⟨by rfl, ?_⟩) hHeld ?_ ?_
    rotate_left
    · intro w' hS
      have hS := HB_wx.out.trans (hS.mono HB_wx.out.size)
      have q_ := (hS.block _ HBX.out.2).trans HXB.out
      have x0 := cell_heap (i := 0) q_ rfl
      have x1 := cell_heap (i := 1) q_ rfl
      have x2 := cell_heap (i := 2) q_ rfl
      have x3 := cell_heap (i := 3) q_ rfl
      have x4 := cell_heap (i := 4) q_ rfl
      have x5 := cell_heap (i := 5) q_ rfl
      clear q_
      clear hS
      go_simp
      with_reducible rfl
    rotate_left
    · simp only [Act.put, pu_, pz_, ps_, i64_w, i32_w]
      rfl
    refine take_ (i := 10) (N := some 48) (v := ?_) (a' := ?_) #[I,I,I,I,I,I,I,I,I,I,I,Z,Z,Z,Z,Z,Z,Z,Z,Z,Z,Z,Z,Z,Z,Z,Z,Z,Z,Z,Z,Z,Z,Z,Z,Z,Z,Z,Z,Z,Z,Z,Z,Z,Z,Z,Z,Z,Z,Z,Z,Z,Z,Z,Z,Z,Z,Z,Z,Z,Z] rfl rfl (take_of HT_.out (by kernel_rfl)) (fun _ _ _ h => h) (Or.inl ⟨by rfl, ?_⟩) hHeld ?_ ?_
    rotate_left
    · intro w' hS
      have hS := HB_wx.out.trans (hS.mono HB_wx.out.size)
      have cl := cell_heap (i := 0) ((hS.block _ (by have := HS.out; omega)).trans HLB.out) rfl
      clear hS
      go_simp
      with_reducible rfl
    rotate_left
    · simp only [Act.put, pu_, pz_, ps_, i64_w, i32_w]
      rfl
    refine take_ (i := 11) (N := some 49) (v := ?_) (a' := ?_) #[I,I,I,I,I,I,I,I,I,I,I,I,Z,Z,Z,Z,Z,Z,Z,Z,Z,Z,Z,Z,Z,Z,Z,Z,Z,Z,Z,Z,Z,Z,Z,Z,Z,Z,Z,Z,Z,Z,Z,Z,Z,Z,Z,Z,Z,Z,Z,Z,Z,Z,Z,Z,Z,Z,Z,Z,Z] rfl rfl (take_of HT_.out (by kernel_rfl)) (fun _ _ _ h => h) (Or.inl ⟨by rfl, ?_⟩) hHeld ?_ ?_
    rotate_left
    · intro w' hS
      have hS := HB_wx.out.trans (hS.mono HB_wx.out.size)
      have ci := (boxed_keep HBI.out hS).cell
      clear hS
      go_simp
      with_reducible rfl
    rotate_left
    · simp only [Act.put, pu_, pz_, ps_, i64_w, i32_w]
      rfl
    refine pure_ (i := 12) (N := some 50) (v := ?_) (a' := ?_) #[I,I,I,I,I,I,I,I,I,I,I,I,I,Z,Z,Z,Z,Z,Z,Z,Z,Z,Z,Z,Z,Z,Z,Z,Z,Z,Z,Z,Z,Z,Z,Z,Z,Z,Z,Z,Z,Z,Z,Z,Z,Z,Z,Z,Z,Z,Z,Z,Z,Z,Z,Z,Z,Z,Z,Z,Z] rfl rfl (any_of HT_.out (by kernel_rfl)) (fun _ _ _ h => h) (Or.inl ⟨by rfl, ?_⟩) ?_ ?_
    rotate_left
    · intro w'
      go_simp
      with_reducible rfl
    rotate_left
    · simp only [Act.put, pu_, pz_, ps_, i64_w, i32_w]
      rfl
    refine pure_ (i := 13) (N := some 51) (v := ?_) (a' := ?_) #[I,I,I,I,I,I,I,I,I,I,I,I,I,I,Z,Z,Z,Z,Z,Z,Z,Z,Z,Z,Z,Z,Z,Z,Z,Z,Z,Z,Z,Z,Z,Z,Z,Z,Z,Z,Z,Z,Z,Z,Z,Z,Z,Z,Z,Z,Z,Z,Z,Z,Z,Z,Z,Z,Z,Z,Z] rfl rfl (any_of HT_.out (by kernel_rfl)) (fun _ _ _ h => h) (Or.inl ⟨by rfl, ?_⟩) ?_ ?_
    rotate_left
    · intro w'
      go_simp
      with_reducible rfl
    rotate_left
    · simp only [Act.put, pu_, pz_, ps_, i64_w, i32_w]
      rfl
    refine pure_ (i := 14) (N := some 52) (v := ?_) (a' := ?_) #[I,I,I,I,I,I,I,I,I,I,I,I,I,I,I,Z,Z,Z,Z,Z,Z,Z,Z,Z,Z,Z,Z,Z,Z,Z,Z,Z,Z,Z,Z,Z,Z,Z,Z,Z,Z,Z,Z,Z,Z,Z,Z,Z,Z,Z,Z,Z,Z,Z,Z,Z,Z,Z,Z,Z,Z] rfl rfl (any_of HT_.out (by kernel_rfl)) (fun _ _ _ h => h) (Or.inl ⟨by rfl, ?_⟩) ?_ ?_
    rotate_left
    · intro w'
      go_simp
      with_reducible rfl
    rotate_left
    · simp only [Act.put, pu_, pz_, ps_, i64_w, i32_w]
      rfl
    refine take_ (i := 15) (N := some 53) (v := ?_) (a' := ?_) #[I,I,I,I,I,I,I,I,I,I,I,I,I,I,I,I,Z,Z,Z,Z,Z,Z,Z,Z,Z,Z,Z,Z,Z,Z,Z,Z,Z,Z,Z,Z,Z,Z,Z,Z,Z,Z,Z,Z,Z,Z,Z,Z,Z,Z,Z,Z,Z,Z,Z,Z,Z,Z,Z,Z,Z] rfl rfl (take_of HT_.out (by kernel_rfl)) (fun _ _ _ h => h) (Or.inl ⟨by rfl, ?_⟩) hHeld ?_ ?_
    rotate_left
    · intro w' hS
      have hS := HB_wx.out.trans (hS.mono HB_wx.out.size)
      have hq := fun (i : Nat) (u : Value) (hu : ([.int .i64 x.n.k, .int .i64 x.n.m, .int .i64 x.n.lo, .int .i64 x.n.hi, .slice qr x.n.r.length qcr, .slice qk x.n.kids.length qck, .int .i64 x.deep, .int .i64 x.around, .bool x.first, .bool x.last, .bool x.branch, .int .i64 (pp.en : Int)] : List Value)[i]? = some u) => (World.cell?_of_block (w := W) (a := ⟨g, j * 12 + i, none⟩) (hS.block g HGW.out)).trans (HLC.out i u hu)
      have y0 := hq 0 _ rfl
      rw [Nat.add_zero] at y0
      have y1 := hq 1 _ rfl
      have y2 := hq 2 _ rfl
      have y3 := hq 3 _ rfl
      have y4 := hq 4 _ rfl
      have y5 := hq 5 _ rfl
      have y6 := hq 6 _ rfl
      clear hq
      clear hS
      go_simp
      with_reducible rfl
    rotate_left
    · simp only [Act.put, pu_, pz_, ps_, i64_w, i32_w]
      rfl
    refine pure_ (i := 16) (N := some 54) (v := ?_) (a' := ?_) #[I,I,I,I,I,I,I,I,I,I,I,I,I,I,I,I,I,Z,Z,Z,Z,Z,Z,Z,Z,Z,Z,Z,Z,Z,Z,Z,Z,Z,Z,Z,Z,Z,Z,Z,Z,Z,Z,Z,Z,Z,Z,Z,Z,Z,Z,Z,Z,Z,Z,Z,Z,Z,Z,Z,Z] rfl rfl (any_of HT_.out (by kernel_rfl)) (fun _ _ _ h => h) (Or.inl ⟨by rfl, ?_⟩) ?_ ?_
    rotate_left
    · intro w'
      have hz0 := bne_self_eq_false x.deep
      have hz1 := bne_self_eq_false x.n.k
      have hz2 := bne_self_eq_false x.n.m
      have hz3 := bne_self_eq_false x.n.lo
      have hz4 := bne_self_eq_false x.n.hi
      go_simp
      with_reducible rfl
    rotate_left
    · simp only [Act.put, pu_, pz_, ps_, i64_w, i32_w]
      rfl
    refine pure_ (i := 17) (N := some 55) (v := ?_) (a' := ?_) #[I,I,I,I,I,I,I,I,I,I,I,I,I,I,I,I,I,I,Z,Z,Z,Z,Z,Z,Z,Z,Z,Z,Z,Z,Z,Z,Z,Z,Z,Z,Z,Z,Z,Z,Z,Z,Z,Z,Z,Z,Z,Z,Z,Z,Z,Z,Z,Z,Z,Z,Z,Z,Z,Z,Z] rfl rfl (any_of HT_.out (by kernel_rfl)) (fun _ _ _ h => h) (Or.inl ⟨by rfl, ?_⟩) ?_ ?_
    rotate_left
    · intro w'
      go_simp
      with_reducible rfl
    rotate_left
    · simp only [Act.put, pu_, pz_, ps_, i64_w, i32_w]
      rfl
    refine pure_ (i := 18) (N := some 56) (v := ?_) (a' := ?_) #[I,I,I,I,I,I,I,I,I,I,I,I,I,I,I,I,I,I,I,Z,Z,Z,Z,Z,Z,Z,Z,Z,Z,Z,Z,Z,Z,Z,Z,Z,Z,Z,Z,Z,Z,Z,Z,Z,Z,Z,Z,Z,Z,Z,Z,Z,Z,Z,Z,Z,Z,Z,Z,Z,Z] rfl rfl (any_of HT_.out (by kernel_rfl)) (fun _ _ _ h => h) (Or.inl ⟨by rfl, ?_⟩) ?_ ?_
    rotate_left
    · intro w'
      go_simp
      with_reducible rfl
    rotate_left
    · simp only [Act.put, pu_, pz_, ps_, i64_w, i32_w]
      rfl
    refine pure_ (i := 19) (N := some 57) (v := ?_) (a' := ?_) #[I,I,I,I,I,I,I,I,I,I,I,I,I,I,I,I,I,I,I,I,Z,Z,Z,Z,Z,Z,Z,Z,Z,Z,Z,Z,Z,Z,Z,Z,Z,Z,Z,Z,Z,Z,Z,Z,Z,Z,Z,Z,Z,Z,Z,Z,Z,Z,Z,Z,Z,Z,Z,Z,Z] rfl rfl (any_of HT_.out (by kernel_rfl)) (fun _ _ _ h => h) (Or.inl ⟨by rfl, ?_⟩) ?_ ?_
    rotate_left
    · intro w'
      go_simp
      with_reducible rfl
    rotate_left
    · simp only [Act.put, pu_, pz_, ps_, i64_w, i32_w]
      rfl
    refine take_ (i := 20) (N := some 58) (v := ?_) (a' := ?_) #[I,I,I,I,I,I,I,I,I,I,I,I,I,I,I,I,I,I,I,I,I,Z,Z,Z,Z,Z,Z,Z,Z,Z,Z,Z,Z,Z,Z,Z,Z,Z,Z,Z,Z,Z,Z,Z,Z,Z,Z,Z,Z,Z,Z,Z,Z,Z,Z,Z,Z,Z,Z,Z,Z] rfl rfl (take_of HT_.out (by kernel_rfl)) (fun _ _ _ h => h) (Or.inl ⟨by rfl, ?_⟩) hHeld ?_ ?_
    rotate_left
    · intro w' hS
      have hS := HB_wx.out.trans (hS.mono HB_wx.out.size)
      have q_ := (hS.block _ HBX.out.2).trans HXB.out
      have x0 := cell_heap (i := 0) q_ rfl
      have x1 := cell_heap (i := 1) q_ rfl
      have x2 := cell_heap (i := 2) q_ rfl
      have x3 := cell_heap (i := 3) q_ rfl
      have x4 := cell_heap (i := 4) q_ rfl
      have x5 := cell_heap (i := 5) q_ rfl
      clear q_
      clear hS
      go_simp
      with_reducible rfl
    rotate_left
    · simp only [Act.put, pu_, pz_, ps_, i64_w, i32_w]
      rfl
    refine take_ (i := 21) (N := some 59) (v := ?_) (a' := ?_) #[I,I,I,I,I,I,I,I,I,I,I,I,I,I,I,I,I,I,I,I,I,I,Z,Z,Z,Z,Z,Z,Z,Z,Z,Z,Z,Z,Z,Z,Z,Z,Z,Z,Z,Z,Z,Z,Z,Z,Z,Z,Z,Z,Z,Z,Z,Z,Z,Z,Z,Z,Z,Z,Z] rfl rfl (take_of HT_.out (by kernel_rfl)) (fun _ _ _ h => h) (Or.inl ⟨by rfl, ?_⟩) hHeld ?_ ?_
    rotate_left
    · intro w' hS
      have hS := HB_wx.out.trans (hS.mono HB_wx.out.size)
      have cl := cell_heap (i := 0) ((hS.block _ (by have := HS.out; omega)).trans HLB.out) rfl
      clear hS
      go_simp
      with_reducible rfl
    rotate_left
    · simp only [Act.put, pu_, pz_, ps_, i64_w, i32_w]
      rfl
    refine take_ (i := 22) (N := some 60) (v := ?_) (a' := ?_) #[I,I,I,I,I,I,I,I,I,I,I,I,I,I,I,I,I,I,I,I,I,I,I,Z,Z,Z,Z,Z,Z,Z,Z,Z,Z,Z,Z,Z,Z,Z,Z,Z,Z,Z,Z,Z,Z,Z,Z,Z,Z,Z,Z,Z,Z,Z,Z,Z,Z,Z,Z,Z,Z] rfl rfl (take_of HT_.out (by kernel_rfl)) (fun _ _ _ h => h) (Or.inl ⟨by rfl, ?_⟩) hHeld ?_ ?_
    rotate_left
    · intro w' hS
      have hS := HB_wx.out.trans (hS.mono HB_wx.out.size)
      have ci := (boxed_keep HBI.out hS).cell
      clear hS
      go_simp
      with_reducible rfl
    rotate_left
    · simp only [Act.put, pu_, pz_, ps_, i64_w, i32_w]
      rfl
    refine pure_ (i := 23) (N := some 61) (v := ?_) (a' := ?_) #[I,I,I,I,I,I,I,I,I,I,I,I,I,I,I,I,I,I,I,I,I,I,I,I,Z,Z,Z,Z,Z,Z,Z,Z,Z,Z,Z,Z,Z,Z,Z,Z,Z,Z,Z,Z,Z,Z,Z,Z,Z,Z,Z,Z,Z,Z,Z,Z,Z,Z,Z,Z,Z] rfl rfl (any_of HT_.out (by kernel_rfl)) (fun _ _ _ h => h) (Or.inl ⟨by rfl, ?_⟩) ?_ ?_
    rotate_left
    · intro w'
      go_simp
      with_reducible rfl
    rotate_left
    · simp only [Act.put, pu_, pz_, ps_, i64_w, i32_w]
      rfl
    refine pure_ (i := 24) (N := some 62) (v := ?_) (a' := ?_) #[I,I,I,I,I,I,I,I,I,I,I,I,I,I,I,I,I,I,I,I,I,I,I,I,I,Z,Z,Z,Z,Z,Z,Z,Z,Z,Z,Z,Z,Z,Z,Z,Z,Z,Z,Z,Z,Z,Z,Z,Z,Z,Z,Z,Z,Z,Z,Z,Z,Z,Z,Z,Z] rfl rfl (any_of HT_.out (by kernel_rfl)) (fun _ _ _ h => h) (Or.inl ⟨by rfl, ?_⟩) ?_ ?_
    rotate_left
    · intro w'
      go_simp
      with_reducible rfl
    rotate_left
    · simp only [Act.put, pu_, pz_, ps_, i64_w, i32_w]
      rfl
    refine pure_ (i := 25) (N := some 63) (v := ?_) (a' := ?_) #[I,I,I,I,I,I,I,I,I,I,I,I,I,I,I,I,I,I,I,I,I,I,I,I,I,I,Z,Z,Z,Z,Z,Z,Z,Z,Z,Z,Z,Z,Z,Z,Z,Z,Z,Z,Z,Z,Z,Z,Z,Z,Z,Z,Z,Z,Z,Z,Z,Z,Z,Z,Z] rfl rfl (any_of HT_.out (by kernel_rfl)) (fun _ _ _ h => h) (Or.inl ⟨by rfl, ?_⟩) ?_ ?_
    rotate_left
    · intro w'
      go_simp
      with_reducible rfl
    rotate_left
    · simp only [Act.put, pu_, pz_, ps_, i64_w, i32_w]
      rfl
    refine take_ (i := 26) (N := some 64) (v := ?_) (a' := ?_) #[I,I,I,I,I,I,I,I,I,I,I,I,I,I,I,I,I,I,I,I,I,I,I,I,I,I,I,Z,Z,Z,Z,Z,Z,Z,Z,Z,Z,Z,Z,Z,Z,Z,Z,Z,Z,Z,Z,Z,Z,Z,Z,Z,Z,Z,Z,Z,Z,Z,Z,Z,Z] rfl rfl (take_of HT_.out (by kernel_rfl)) (fun _ _ _ h => h) (Or.inl ⟨by rfl, ?_⟩) hHeld ?_ ?_
    rotate_left
    · intro w' hS
      have hS := HB_wx.out.trans (hS.mono HB_wx.out.size)
      have hq := fun (i : Nat) (u : Value) (hu : ([.int .i64 x.n.k, .int .i64 x.n.m, .int .i64 x.n.lo, .int .i64 x.n.hi, .slice qr x.n.r.length qcr, .slice qk x.n.kids.length qck, .int .i64 x.deep, .int .i64 x.around, .bool x.first, .bool x.last, .bool x.branch, .int .i64 (pp.en : Int)] : List Value)[i]? = some u) => (World.cell?_of_block (w := W) (a := ⟨g, j * 12 + i, none⟩) (hS.block g HGW.out)).trans (HLC.out i u hu)
      have y0 := hq 0 _ rfl
      rw [Nat.add_zero] at y0
      have y1 := hq 1 _ rfl
      have y2 := hq 2 _ rfl
      have y3 := hq 3 _ rfl
      have y4 := hq 4 _ rfl
      have y5 := hq 5 _ rfl
      have y6 := hq 6 _ rfl
      clear hq
      clear hS
      go_simp
      with_reducible rfl
    rotate_left
    · simp only [Act.put, pu_, pz_, ps_, i64_w, i32_w]
      rfl
    refine pure_ (i := 27) (N := some 65) (v := ?_) (a' := ?_) #[I,I,I,I,I,I,I,I,I,I,I,I,I,I,I,I,I,I,I,I,I,I,I,I,I,I,I,I,Z,Z,Z,Z,Z,Z,Z,Z,Z,Z,Z,Z,Z,Z,Z,Z,Z,Z,Z,Z,Z,Z,Z,Z,Z,Z,Z,Z,Z,Z,Z,Z,Z] rfl rfl (any_of HT_.out (by kernel_rfl)) (fun _ _ _ h => h) (Or.inl ⟨by rfl, ?_⟩) ?_ ?_
    rotate_left
    · intro w'
      have hz0 := bne_self_eq_false x.deep
      have hz1 := bne_self_eq_false x.n.k
      have hz2 := bne_self_eq_false x.n.m
      have hz3 := bne_self_eq_false x.n.lo
      have hz4 := bne_self_eq_false x.n.hi
      go_simp
      with_reducible rfl
    rotate_left
    · simp only [Act.put, pu_, pz_, ps_, i64_w, i32_w]
      rfl
    refine pure_ (i := 28) (N := some 66) (v := ?_) (a' := ?_) #[I,I,I,I,I,I,I,I,I,I,I,I,I,I,I,I,I,I,I,I,I,I,I,I,I,I,I,I,I,Z,Z,Z,Z,Z,Z,Z,Z,Z,Z,Z,Z,Z,Z,Z,Z,Z,Z,Z,Z,Z,Z,Z,Z,Z,Z,Z,Z,Z,Z,Z,Z] rfl rfl (any_of HT_.out (by kernel_rfl)) (fun _ _ _ h => h) (Or.inl ⟨by rfl, ?_⟩) ?_ ?_
    rotate_left
    · intro w'
      go_simp
      with_reducible rfl
    rotate_left
    · simp only [Act.put, pu_, pz_, ps_, i64_w, i32_w]
      rfl
    refine pure_ (i := 29) (N := some 67) (v := ?_) (a' := ?_) #[I,I,I,I,I,I,I,I,I,I,I,I,I,I,I,I,I,I,I,I,I,I,I,I,I,I,I,I,I,I,Z,Z,Z,Z,Z,Z,Z,Z,Z,Z,Z,Z,Z,Z,Z,Z,Z,Z,Z,Z,Z,Z,Z,Z,Z,Z,Z,Z,Z,Z,Z] rfl rfl (any_of HT_.out (by kernel_rfl)) (fun _ _ _ h => h) (Or.inl ⟨by rfl, ?_⟩) ?_ ?_
    rotate_left
    · intro w'
      go_simp
      with_reducible rfl
    rotate_left
    · simp only [Act.put, pu_, pz_, ps_, i64_w, i32_w]
      rfl
    refine pure_ (i := 30) (N := some 68) (v := ?_) (a' := ?_) #[I,I,I,I,I,I,I,I,I,I,I,I,I,I,I,I,I,I,I,I,I,I,I,I,I,I,I,I,I,I,I,Z,Z,Z,Z,Z,Z,Z,Z,Z,Z,Z,Z,Z,Z,Z,Z,Z,Z,Z,Z,Z,Z,Z,Z,Z,Z,Z,Z,Z,Z] rfl rfl (any_of HT_.out (by kernel_rfl)) (fun _ _ _ h => h) (Or.inl ⟨by rfl, ?_⟩) ?_ ?_
    rotate_left
    · intro w'
      go_simp
      with_reducible rfl
    rotate_left
    · simp only [Act.put, pu_, pz_, ps_, i64_w, i32_w]
      rfl
    refine take_ (i := 31) (N := some 69) (v := ?_) (a' := ?_) #[I,I,I,I,I,I,I,I,I,I,I,I,I,I,I,I,I,I,I,I,I,I,I,I,I,I,I,I,I,I,I,I,Z,Z,Z,Z,Z,Z,Z,Z,Z,Z,Z,Z,Z,Z,Z,Z,Z,Z,Z,Z,Z,Z,Z,Z,Z,Z,Z,Z,Z] rfl rfl (take_of HT_.out (by kernel_rfl)) (fun _ _ _ h => h) (Or.inl ⟨by rfl, ?_⟩) hHeld ?_ ?_
    rotate_left
    · intro w' hS
      have hS := HB_wx.out.trans (hS.mono HB_wx.out.size)
      have q_ := (hS.block _ HBX.out.2).trans HXB.out
      have x0 := cell_heap (i := 0) q_ rfl
      have x1 := cell_heap (i := 1) q_ rfl
      have x2 := cell_heap (i := 2) q_ rfl
      have x3 := cell_heap (i := 3) q_ rfl
      have x4 := cell_heap (i := 4) q_ rfl
      have x5 := cell_heap (i := 5) q_ rfl
      clear q_
      clear hS
      go_simp
      with_reducible rfl
    rotate_left
    · simp only [Act.put, pu_, pz_, ps_, i64_w, i32_w]
      rfl
    refine take_ (i := 32) (N := some 70) (v := ?_) (a' := ?_) #[I,I,I,I,I,I,I,I,I,I,I,I,I,I,I,I,I,I,I,I,I,I,I,I,I,I,I,I,I,I,I,I,I,Z,Z,Z,Z,Z,Z,Z,Z,Z,Z,Z,Z,Z,Z,Z,Z,Z,Z,Z,Z,Z,Z,Z,Z,Z,Z,Z,Z] rfl rfl (take_of HT_.out (by kernel_rfl)) (fun _ _ _ h => h) (Or.inl ⟨by rfl, ?_⟩) hHeld ?_ ?_
    rotate_left
    · intro w' hS
      have hS := HB_wx.out.trans (hS.mono HB_wx.out.size)
      have cl := cell_heap (i := 0) ((hS.block _ (by have := HS.out; omega)).trans HLB.out) rfl
      clear hS
      go_simp
      with_reducible rfl
    rotate_left
    · simp only [Act.put, pu_, pz_, ps_, i64_w, i32_w]
      rfl
    refine take_ (i := 33) (N := some 71) (v := ?_) (a' := ?_) #[I,I,I,I,I,I,I,I,I,I,I,I,I,I,I,I,I,I,I,I,I,I,I,I,I,I,I,I,I,I,I,I,I,I,Z,Z,Z,Z,Z,Z,Z,Z,Z,Z,Z,Z,Z,Z,Z,Z,Z,Z,Z,Z,Z,Z,Z,Z,Z,Z,Z] rfl rfl (take_of HT_.out (by kernel_rfl)) (fun _ _ _ h => h) (Or.inl ⟨by rfl, ?_⟩) hHeld ?_ ?_
    rotate_left
    · intro w' hS
      have hS := HB_wx.out.trans (hS.mono HB_wx.out.size)
      have ci := (boxed_keep HBI.out hS).cell
      clear hS
      go_simp
      with_reducible rfl
    rotate_left
    · simp only [Act.put, pu_, pz_, ps_, i64_w, i32_w]
      rfl
    refine pure_ (i := 34) (N := some 72) (v := ?_) (a' := ?_) #[I,I,I,I,I,I,I,I,I,I,I,I,I,I,I,I,I,I,I,I,I,I,I,I,I,I,I,I,I,I,I,I,I,I,I,Z,Z,Z,Z,Z,Z,Z,Z,Z,Z,Z,Z,Z,Z,Z,Z,Z,Z,Z,Z,Z,Z,Z,Z,Z,Z] rfl rfl (any_of HT_.out (by kernel_rfl)) (fun _ _ _ h => h) (Or.inl ⟨by rfl, ?_⟩) ?_ ?_
    rotate_left
    · intro w'
      go_simp
      with_reducible rfl
    rotate_left
    · simp only [Act.put, pu_, pz_, ps_, i64_w, i32_w]
      rfl
    refine pure_ (i := 35) (N := some 73) (v := ?_) (a' := ?_) #[I,I,I,I,I,I,I,I,I,I,I,I,I,I,I,I,I,I,I,I,I,I,I,I,I,I,I,I,I,I,I,I,I,I,I,I,Z,Z,Z,Z,Z,Z,Z,Z,Z,Z,Z,Z,Z,Z,Z,Z,Z,Z,Z,Z,Z,Z,Z,Z,Z] rfl rfl (any_of HT_.out (by kernel_rfl)) (fun _ _ _ h => h) (Or.inl ⟨by rfl, ?_⟩) ?_ ?_
    rotate_left
    · intro w'
      go_simp
      with_reducible rfl
    rotate_left
    · simp only [Act.put, pu_, pz_, ps_, i64_w, i32_w]
      rfl
    refine pure_ (i := 36) (N := some 74) (v := ?_) (a' := ?_) #[I,I,I,I,I,I,I,I,I,I,I,I,I,I,I,I,I,I,I,I,I,I,I,I,I,I,I,I,I,I,I,I,I,I,I,I,I,Z,Z,Z,Z,Z,Z,Z,Z,Z,Z,Z,Z,Z,Z,Z,Z,Z,Z,Z,Z,Z,Z,Z,Z] rfl rfl (any_of HT_.out (by kernel_rfl)) (fun _ _ _ h => h) (Or.inl ⟨by rfl, ?_⟩) ?_ ?_
    rotate_left
    · intro w'
      go_simp
      with_reducible rfl
    rotate_left
    · simp only [Act.put, pu_, pz_, ps_, i64_w, i32_w]
      rfl
    refine take_ (i := 37) (N := some 75) (v := ?_) (a' := ?_) #[I,I,I,I,I,I,I,I,I,I,I,I,I,I,I,I,I,I,I,I,I,I,I,I,I,I,I,I,I,I,I,I,I,I,I,I,I,I,Z,Z,Z,Z,Z,Z,Z,Z,Z,Z,Z,Z,Z,Z,Z,Z,Z,Z,Z,Z,Z,Z,Z] rfl rfl (take_of HT_.out (by kernel_rfl)) (fun _ _ _ h => h) (Or.inl ⟨by rfl, ?_⟩) hHeld ?_ ?_
    rotate_left
    · intro w' hS
      have hS := HB_wx.out.trans (hS.mono HB_wx.out.size)
      have hq := fun (i : Nat) (u : Value) (hu : ([.int .i64 x.n.k, .int .i64 x.n.m, .int .i64 x.n.lo, .int .i64 x.n.hi, .slice qr x.n.r.length qcr, .slice qk x.n.kids.length qck, .int .i64 x.deep, .int .i64 x.around, .bool x.first, .bool x.last, .bool x.branch, .int .i64 (pp.en : Int)] : List Value)[i]? = some u) => (World.cell?_of_block (w := W) (a := ⟨g, j * 12 + i, none⟩) (hS.block g HGW.out)).trans (HLC.out i u hu)
      have y0 := hq 0 _ rfl
      rw [Nat.add_zero] at y0
      have y1 := hq 1 _ rfl
      have y2 := hq 2 _ rfl
      have y3 := hq 3 _ rfl
      have y4 := hq 4 _ rfl
      have y5 := hq 5 _ rfl
      have y6 := hq 6 _ rfl
      clear hq
      clear hS
      go_simp
      with_reducible rfl
    rotate_left
    · simp only [Act.put, pu_, pz_, ps_, i64_w, i32_w]
      rfl
    refine pure_ (i := 38) (N := some 76) (v := ?_) (a' := ?_) #[I,I,I,I,I,I,I,I,I,I,I,I,I,I,I,I,I,I,I,I,I,I,I,I,I,I,I,I,I,I,I,I,I,I,I,I,I,I,I,Z,Z,Z,Z,Z,Z,Z,Z,Z,Z,Z,Z,Z,Z,Z,Z,Z,Z,Z,Z,Z,Z] rfl rfl (any_of HT_.out (by kernel_rfl)) (fun _ _ _ h => h) (Or.inl ⟨by rfl, ?_⟩) ?_ ?_
    rotate_left
    · intro w'
      have hz0 := bne_self_eq_false x.deep
      have hz1 := bne_self_eq_false x.n.k
      have hz2 := bne_self_eq_false x.n.m
      have hz3 := bne_self_eq_false x.n.lo
      have hz4 := bne_self_eq_false x.n.hi
      go_simp
      with_reducible rfl
    rotate_left
    · simp only [Act.put, pu_, pz_, ps_, i64_w, i32_w]
      rfl
    refine pure_ (i := 39) (N := some 77) (v := ?_) (a' := ?_) #[I,I,I,I,I,I,I,I,I,I,I,I,I,I,I,I,I,I,I,I,I,I,I,I,I,I,I,I,I,I,I,I,I,I,I,I,I,I,I,I,Z,Z,Z,Z,Z,Z,Z,Z,Z,Z,Z,Z,Z,Z,Z,Z,Z,Z,Z,Z,Z] rfl rfl (any_of HT_.out (by kernel_rfl)) (fun _ _ _ h => h) (Or.inl ⟨by rfl, ?_⟩) ?_ ?_
    rotate_left
    · intro w'
      go_simp
      with_reducible rfl
    rotate_left
    · simp only [Act.put, pu_, pz_, ps_, i64_w, i32_w]
      rfl
    refine pure_ (i := 40) (N := some 78) (v := ?_) (a' := ?_) #[I,I,I,I,I,I,I,I,I,I,I,I,I,I,I,I,I,I,I,I,I,I,I,I,I,I,I,I,I,I,I,I,I,I,I,I,I,I,I,I,I,Z,Z,Z,Z,Z,Z,Z,Z,Z,Z,Z,Z,Z,Z,Z,Z,Z,Z,Z,Z] rfl rfl (any_of HT_.out (by kernel_rfl)) (fun _ _ _ h => h) (Or.inl ⟨by rfl, ?_⟩) ?_ ?_
    rotate_left
    · intro w'
      go_simp
      with_reducible rfl
    rotate_left
    · simp only [Act.put, pu_, pz_, ps_, i64_w, i32_w]
      rfl
    refine pure_ (i := 41) (N := some 79) (v := ?_) (a' := ?_) #[I,I,I,I,I,I,I,I,I,I,I,I,I,I,I,I,I,I,I,I,I,I,I,I,I,I,I,I,I,I,I,I,I,I,I,I,I,I,I,I,I,I,Z,Z,Z,Z,Z,Z,Z,Z,Z,Z,Z,Z,Z,Z,Z,Z,Z,Z,Z] rfl rfl (any_of HT_.out (by kernel_rfl)) (fun _ _ _ h => h) (Or.inl ⟨by rfl, ?_⟩) ?_ ?_
    rotate_left
    · intro w'
      go_simp
      with_reducible rfl
    rotate_left
    · simp only [Act.put, pu_, pz_, ps_, i64_w, i32_w]
      rfl
    refine take_ (i := 42) (N := some 80) (v := ?_) (a' := ?_) #[I,I,I,I,I,I,I,I,I,I,I,I,I,I,I,I,I,I,I,I,I,I,I,I,I,I,I,I,I,I,I,I,I,I,I,I,I,I,I,I,I,I,I,Z,Z,Z,Z,Z,Z,Z,Z,Z,Z,Z,Z,Z,Z,Z,Z,Z,Z] rfl rfl (take_of HT_.out (by kernel_rfl)) (fun _ _ _ h => h) (Or.inl ⟨by rfl, ?_⟩) hHeld ?_ ?_
    rotate_left
    · intro w' hS
      have hS := HB_wx.out.trans (hS.mono HB_wx.out.size)
      have q_ := (hS.block _ HBX.out.2).trans HXB.out
      have x0 := cell_heap (i := 0) q_ rfl
      have x1 := cell_heap (i := 1) q_ rfl
      have x2 := cell_heap (i := 2) q_ rfl
      have x3 := cell_heap (i := 3) q_ rfl
      have x4 := cell_heap (i := 4) q_ rfl
      have x5 := cell_heap (i := 5) q_ rfl
      clear q_
      clear hS
      go_simp
      with_reducible rfl
    rotate_left
    · simp only [Act.put, pu_, pz_, ps_, i64_w, i32_w]
      rfl
    refine take_ (i := 43) (N := some 81) (v := ?_) (a' := ?_) #[I,I,I,I,I,I,I,I,I,I,I,I,I,I,I,I,I,I,I,I,I,I,I,I,I,I,I,I,I,I,I,I,I,I,I,I,I,I,I,I,I,I,I,I,Z,Z,Z,Z,Z,Z,Z,Z,Z,Z,Z,Z,Z,Z,Z,Z,Z] rfl rfl (take_of HT_.out (by kernel_rfl)) (fun _ _ _ h => h) (Or.inl ⟨by rfl, ?_⟩) hHeld ?_ ?_
    rotate_left
    · intro w' hS
      have hS := HB_wx.out.trans (hS.mono HB_wx.out.size)
      have cl := cell_heap (i := 0) ((hS.block _ (by have := HS.out; omega)).trans HLB.out) rfl
      clear hS
      go_simp
      with_reducible rfl
    rotate_left
    · simp only [Act.put, pu_, pz_, ps_, i64_w, i32_w]
      rfl
    refine take_ (i := 44) (N := some 82) (v := ?_) (a' := ?_) #[I,I,I,I,I,I,I,I,I,I,I,I,I,I,I,I,I,I,I,I,I,I,I,I,I,I,I,I,I,I,I,I,I,I,I,I,I,I,I,I,I,I,I,I,I,Z,Z,Z,Z,Z,Z,Z,Z,Z,Z,Z,Z,Z,Z,Z,Z] rfl rfl (take_of HT_.out (by kernel_rfl)) (fun _ _ _ h => h) (Or.inl ⟨by rfl, ?_⟩) hHeld ?_ ?_
    rotate_left
    · intro w' hS
      have hS := HB_wx.out.trans (hS.mono HB_wx.out.size)
      have ci := (boxed_keep HBI.out hS).cell
      clear hS
      go_simp
      with_reducible rfl
    rotate_left
    · simp only [Act.put, pu_, pz_, ps_, i64_w, i32_w]
      rfl
    refine pure_ (i := 45) (N := some 83) (v := ?_) (a' := ?_) #[I,I,I,I,I,I,I,I,I,I,I,I,I,I,I,I,I,I,I,I,I,I,I,I,I,I,I,I,I,I,I,I,I,I,I,I,I,I,I,I,I,I,I,I,I,I,Z,Z,Z,Z,Z,Z,Z,Z,Z,Z,Z,Z,Z,Z,Z] rfl rfl (any_of HT_.out (by kernel_rfl)) (fun _ _ _ h => h) (Or.inl ⟨by rfl, ?_⟩) ?_ ?_
    rotate_left
    · intro w'
      go_simp
      with_reducible rfl
    rotate_left
    · simp only [Act.put, pu_, pz_, ps_, i64_w, i32_w]
      rfl
    refine pure_ (i := 46) (N := some 84) (v := ?_) (a' := ?_) #[I,I,I,I,I,I,I,I,I,I,I,I,I,I,I,I,I,I,I,I,I,I,I,I,I,I,I,I,I,I,I,I,I,I,I,I,I,I,I,I,I,I,I,I,I,I,I,Z,Z,Z,Z,Z,Z,Z,Z,Z,Z,Z,Z,Z,Z] rfl rfl (any_of HT_.out (by kernel_rfl)) (fun _ _ _ h => h) (Or.inl ⟨by rfl, ?_⟩) ?_ ?_
    rotate_left
    · intro w'
      go_simp
      with_reducible rfl
    rotate_left
    · simp only [Act.put, pu_, pz_, ps_, i64_w, i32_w]
      rfl
    refine pure_ (i := 47) (N := some 85) (v := ?_) (a' := ?_) #[I,I,I,I,I,I,I,I,I,I,I,I,I,I,I,I,I,I,I,I,I,I,I,I,I,I,I,I,I,I,I,I,I,I,I,I,I,I,I,I,I,I,I,I,I,I,I,I,Z,Z,Z,Z,Z,Z,Z,Z,Z,Z,Z,Z,Z] rfl rfl (any_of HT_.out (by kernel_rfl)) (fun _ _ _ h => h) (Or.inl ⟨by rfl, ?_⟩) ?_ ?_
    rotate_left
    · intro w'
      go_simp
      with_reducible rfl
    rotate_left
    · simp only [Act.put, pu_, pz_, ps_, i64_w, i32_w]
      rfl
    refine take_ (i := 48) (N := some 86) (v := ?_) (a' := ?_) #[I,I,I,I,I,I,I,I,I,I,I,I,I,I,I,I,I,I,I,I,I,I,I,I,I,I,I,I,I,I,I,I,I,I,I,I,I,I,I,I,I,I,I,I,I,I,I,I,I,Z,Z,Z,Z,Z,Z,Z,Z,Z,Z,Z,Z] rfl rfl (take_of HT_.out (by kernel_rfl)) (fun _ _ _ h => h) (Or.inl ⟨by rfl, ?_⟩) hHeld ?_ ?_
    rotate_left
    · intro w' hS
      have hS := HB_wx.out.trans (hS.mono HB_wx.out.size)
      have hq := fun (i : Nat) (u : Value) (hu : ([.int .i64 x.n.k, .int .i64 x.n.m, .int .i64 x.n.lo, .int .i64 x.n.hi, .slice qr x.n.r.length qcr, .slice qk x.n.kids.length qck, .int .i64 x.deep, .int .i64 x.around, .bool x.first, .bool x.last, .bool x.branch, .int .i64 (pp.en : Int)] : List Value)[i]? = some u) => (World.cell?_of_block (w := W) (a := ⟨g, j * 12 + i, none⟩) (hS.block g HGW.out)).trans (HLC.out i u hu)
      have y0 := hq 0 _ rfl
      rw [Nat.add_zero] at y0
      have y1 := hq 1 _ rfl
      have y2 := hq 2 _ rfl
      have y3 := hq 3 _ rfl
      have y4 := hq 4 _ rfl
      have y5 := hq 5 _ rfl
      have y6 := hq 6 _ rfl
      clear hq
      clear hS
      go_simp
      with_reducible rfl
    rotate_left
    · simp only [Act.put, pu_, pz_, ps_, i64_w, i32_w]
      rfl
    refine pure_ (i := 49) (N := some 87) (v := ?_) (a' := ?_) #[I,I,I,I,I,I,I,I,I,I,I,I,I,I,I,I,I,I,I,I,I,I,I,I,I,I,I,I,I,I,I,I,I,I,I,I,I,I,I,I,I,I,I,I,I,I,I,I,I,I,Z,Z,Z,Z,Z,Z,Z,Z,Z,Z,Z] rfl rfl (any_of HT_.out (by kernel_rfl)) (fun _ _ _ h => h) (Or.inl ⟨by rfl, ?_⟩) ?_ ?_
    rotate_left
    · intro w'
      have hz0 := bne_self_eq_false x.deep
      have hz1 := bne_self_eq_false x.n.k
      have hz2 := bne_self_eq_false x.n.m
      have hz3 := bne_self_eq_false x.n.lo
      have hz4 := bne_self_eq_false x.n.hi
      go_simp
      with_reducible rfl
    rotate_left
    · simp only [Act.put, pu_, pz_, ps_, i64_w, i32_w]
      rfl
    refine pure_ (i := 50) (N := some 88) (v := ?_) (a' := ?_) #[I,I,I,I,I,I,I,I,I,I,I,I,I,I,I,I,I,I,I,I,I,I,I,I,I,I,I,I,I,I,I,I,I,I,I,I,I,I,I,I,I,I,I,I,I,I,I,I,I,I,I,Z,Z,Z,Z,Z,Z,Z,Z,Z,Z] rfl rfl (any_of HT_.out (by kernel_rfl)) (fun _ _ _ h => h) (Or.inl ⟨by rfl, ?_⟩) ?_ ?_
    rotate_left
    · intro w'
      go_simp
      with_reducible rfl
    rotate_left
    · simp only [Act.put, pu_, pz_, ps_, i64_w, i32_w]
      rfl
    refine pure_ (i := 51) (N := some 89) (v := ?_) (a' := ?_) #[I,I,I,I,I,I,I,I,I,I,I,I,I,I,I,I,I,I,I,I,I,I,I,I,I,I,I,I,I,I,I,I,I,I,I,I,I,I,I,I,I,I,I,I,I,I,I,I,I,I,I,I,Z,Z,Z,Z,Z,Z,Z,Z,Z] rfl rfl (any_of HT_.out (by kernel_rfl)) (fun _ _ _ h => h) (Or.inl ⟨by rfl, ?_⟩) ?_ ?_
    rotate_left
    · intro w'
      go_simp
      with_reducible rfl
    rotate_left
    · simp only [Act.put, pu_, pz_, ps_, i64_w, i32_w]
      rfl
    refine pure_ (i := 52) (N := some 90) (v := ?_) (a' := ?_) #[I,I,I,I,I,I,I,I,I,I,I,I,I,I,I,I,I,I,I,I,I,I,I,I,I,I,I,I,I,I,I,I,I,I,I,I,I,I,I,I,I,I,I,I,I,I,I,I,I,I,I,I,I,Z,Z,Z,Z,Z,Z,Z,Z] rfl rfl (any_of HT_.out (by kernel_rfl)) (fun _ _ _ h => h) (Or.inl ⟨by rfl, ?_⟩) ?_ ?_
    rotate_left
    · intro w'
      go_simp
      with_reducible rfl
    rotate_left
    · simp only [Act.put, pu_, pz_, ps_, i64_w, i32_w]
      rfl
    refine pure_ (i := 53) (N := some 91) (v := ?_) (a' := ?_) #[I,I,I,I,I,I,I,I,I,I,I,I,I,I,I,I,I,I,I,I,I,I,I,I,I,I,I,I,I,I,I,I,I,I,I,I,I,I,I,I,I,I,I,I,I,I,I,I,I,I,I,I,I,I,Z,Z,Z,Z,Z,Z,Z] rfl rfl (any_of HT_.out (by kernel_rfl)) (fun _ _ _ h => h) (Or.inl ⟨by rfl, ?_⟩) ?_ ?_
    rotate_left
    · intro w'
      go_simp
      with_reducible rfl
    rotate_left
    · simp only [Act.put, pu_, pz_, ps_, i64_w, i32_w]
      rfl
    refine pure_ (i := 54) (N := some 92) (v := ?_) (a' := ?_) #[I,I,I,I,I,I,I,I,I,I,I,I,I,I,I,I,I,I,I,I,I,I,I,I,I,I,I,I,I,I,I,I,I,I,I,I,I,I,I,I,I,I,I,I,I,I,I,I,I,I,I,I,I,I,I,Z,Z,Z,Z,Z,Z] rfl rfl (any_of HT_.out (by kernel_rfl)) (fun _ _ _ h => h) (Or.inl ⟨by rfl, ?_⟩) ?_ ?_
    rotate_left
    · intro w'
      go_simp
      with_reducible rfl
    rotate_left
    · simp only [Act.put, pu_, pz_, ps_, i64_w, i32_w]
      rfl
    refine pure_ (i := 55) (N := some 93) (v := ?_) (a' := ?_) #[I,I,I,I,I,I,I,I,I,I,I,I,I,I,I,I,I,I,I,I,I,I,I,I,I,I,I,I,I,I,I,I,I,I,I,I,I,I,I,I,I,I,I,I,I,I,I,I,I,I,I,I,I,I,I,I,Z,Z,Z,Z,Z] rfl rfl (any_of HT_.out (by kernel_rfl)) (fun _ _ _ h => h) (Or.inl ⟨by rfl, ?_⟩) ?_ ?_
    rotate_left
    · intro w'
      go_simp
      with_reducible rfl
    rotate_left
    · simp only [Act.put, pu_, pz_, ps_, i64_w, i32_w]
      rfl
    refine pure_ (i := 56) (N := some 94) (v := ?_) (a' := ?_) #[I,I,I,I,I,I,I,I,I,I,I,I,I,I,I,I,I,I,I,I,I,I,I,I,I,I,I,I,I,I,I,I,I,I,I,I,I,I,I,I,I,I,I,I,I,I,I,I,I,I,I,I,I,I,I,I,I,Z,Z,Z,Z] rfl rfl (any_of HT_.out (by kernel_rfl)) (fun _ _ _ h => h) (Or.inl ⟨by rfl, ?_⟩) ?_ ?_
    rotate_left
    · intro w'
      go_simp
      with_reducible rfl
    rotate_left
    · simp only [Act.put, pu_, pz_, ps_, i64_w, i32_w]
      rfl
    refine take_ (i := 57) (N := some 95) (v := ?_) (a' := ?_) #[I,I,I,I,I,I,I,I,I,I,I,I,I,I,I,I,I,I,I,I,I,I,I,I,I,I,I,I,I,I,I,I,I,I,I,I,I,I,I,I,I,I,I,I,I,I,I,I,I,I,I,I,I,I,I,I,I,I,Z,Z,Z] rfl rfl (take_of HT_.out (by kernel_rfl)) (fun _ _ _ h => h) (Or.inl ⟨by rfl, ?_⟩) hHeld ?_ ?_
    rotate_left
    · intro w' hS
      have hS := HB_wx.out.trans (hS.mono HB_wx.out.size)
      have q_ := (hS.block _ HBX.out.2).trans HXB.out
      have x0 := cell_heap (i := 0) q_ rfl
      have x1 := cell_heap (i := 1) q_ rfl
      have x2 := cell_heap (i := 2) q_ rfl
      have x3 := cell_heap (i := 3) q_ rfl
      have x4 := cell_heap (i := 4) q_ rfl
      have x5 := cell_heap (i := 5) q_ rfl
      clear q_
      clear hS
      go_simp
      with_reducible rfl
    rotate_left
    · simp only [Act.put, pu_, pz_, ps_, i64_w, i32_w]
      rfl
    refine pure_ (i := 58) (N := some 96) (v := ?_) (a' := ?_) #[I,I,I,I,I,I,I,I,I,I,I,I,I,I,I,I,I,I,I,I,I,I,I,I,I,I,I,I,I,I,I,I,I,I,I,I,I,I,I,I,I,I,I,I,I,I,I,I,I,I,I,I,I,I,I,I,I,I,I,Z,Z] rfl rfl (any_of HT_.out (by kernel_rfl)) (fun _ _ _ h => h) (Or.inl ⟨by rfl, ?_⟩) ?_ ?_
    rotate_left
    · intro w'
      go_simp
      with_reducible rfl
    rotate_left
    · simp only [Act.put, pu_, pz_, ps_, i64_w, i32_w]
      rfl
    refine pure_ (i := 59) (N := some 97) (v := ?_) (a' := ?_) #[I,I,I,I,I,I,I,I,I,I,I,I,I,I,I,I,I,I,I,I,I,I,I,I,I,I,I,I,I,I,I,I,I,I,I,I,I,I,I,I,I,I,I,I,I,I,I,I,I,I,I,I,I,I,I,I,I,I,I,I,Z] rfl rfl (any_of HT_.out (by kernel_rfl)) (fun _ _ _ h => h) (Or.inl ⟨by rfl, ?_⟩) ?_ ?_
    rotate_left
    · intro w'
      go_simp
      with_reducible rfl
    rotate_left
    · simp only [Act.put, pu_, pz_, ps_, i64_w, i32_w]
      rfl
    refine pure_ (i := 60) (N := some 98) (v := ?_) (a' := ?_) #[I,I,I,I,I,I,I,I,I,I,I,I,I,I,I,I,I,I,I,I,I,I,I,I,I,I,I,I,I,I,I,I,I,I,I,I,I,I,I,I,I,I,I,I,I,I,I,I,I,I,I,I,I,I,I,I,I,I,I,I,I] rfl rfl (any_of HT_.out (by kernel_rfl)) (fun _ _ _ h => h) (Or.inl ⟨by rfl, ?_⟩) ?_ ?_
    rotate_left
    · intro w'
      go_simp
      with_reducible rfl
    rotate_left
    · simp only [Act.put, pu_, pz_, ps_, i64_w, i32_w]
      rfl
    refine done_ (done_of HT_.out (by kernel_rfl)) ?_
    clear HT_ hHeld
    simp only [onlyNormal_]
    have hbW : Below W.heap.size W w_e := HB_wx.out.trans (HBb.out.mono HB_wx.out.size)
    have HBW := Lib.hid hbW
    have hbi0 := boxed_keep HBI.out hbW
    have hown0 := Kd.R_own (Kd.R_below HR.out hbW)
    have hxb0 := (hbW.block _ HBX.out.2).trans HXB.out
    have HST := Lib.hid (And.intro hbi0 (And.intro hown0 hxb0))
    clear hbW hbi0 hown0 hxb0 HB_wx HBa HBb HC HF HLC
    gi_wp2_with fail
    gi_loopg [12] x.n.r.length (fun gg s12 wr => ∃ q : Nat, s12 = .int .i64 q ∧ q ≤ x.n.r.length ∧ x.n.r.length - q ≤ gg ∧ Aside0 (KeptBut (w.heap.size + 5) W6.heap.size W wr ∧ Boxed wr (w.heap.size + 5) 3 (.int .i64 (j : Int)) ∧ Below (w.heap.size + 5) W6 wr ∧ wr.heap[Bx]? = some (.cells #[.int .i64 x.n.k, .int .i64 x.n.m, .int .i64 x.n.lo, .int .i64 x.n.hi, .slice A x.n.r.length cc, .slice none 0 0] 44 (0, 0)) ∧ ∃ inner, wr.ownsRow (w.heap.size + 8) 64 2 (.slice A x.n.r.length cc) x.n.r.length inner))
    case atStart =>
      refine ⟨0, rfl, by omega, by omega, ⟨KeptBut.of_below HBW.out, HST.out.1, HBE.out.trans (HBW.out.mono (by have := HS.out; omega)), HST.out.2.2, ?_⟩⟩
      obtain ⟨inner, h⟩ := HST.out.2.1
      exact ⟨inner, h⟩
    case round =>
      obtain ⟨q, rfl, hq, hgg, HQ⟩ := hrel
      have x4 := cell_heap (i := 4) HQ.out.2.2.2.1 rfl
      by_cases hlt : q < x.n.r.length
      · have hlt' : (q : Int) < (x.n.r.length : Int) := by omega
        rcases HAA.out with h0 | ⟨gg, cells, rfl, hg8, hgW⟩
        · omega
        obtain ⟨hk, hbx, hbe, hxx, inner, hown⟩ := HQ.out
        have hne : gg ≠ Bx := by rintro rfl; rw [HXB.out] at hgW; simp at hgW
        have hfz := fun o => hown.frozenAt o
        have hin : inner.length = x.n.r.length * 2 := hown.1
        have hcl : wr.cell? ⟨gg, q * 2, none⟩ = some inner[q * 2] ∧ wr.cell? ⟨gg, q * 2 + 1, none⟩ = some inner[q * 2 + 1] := by
          obtain ⟨ino, hno⟩ : ∃ y, y = inner := ⟨_, rfl⟩
          exact ⟨by rw [hown.cellAt _ (by omega)]; exact List.getElem?_eq_getElem (by omega), by rw [hown.cellAt _ (by omega)]; exact List.getElem?_eq_getElem (by omega)⟩
        obtain ⟨z0, z1⟩ := hcl
        generalize inner[q * 2] = y0 at z0
        generalize inner[q * 2 + 1] = y1 at z1
        have e6 := HS6.out
        have hX : ∀ u v : Value, KeptBut (w.heap.size + 5) W6.heap.size W ((wr.setCell ⟨gg, q * 2, none⟩ u).setCell ⟨gg, q * 2 + 1, none⟩ v) ∧ Boxed ((wr.setCell ⟨gg, q * 2, none⟩ u).setCell ⟨gg, q * 2 + 1, none⟩ v) (w.heap.size + 5) 3 (.int .i64 (j : Int)) ∧ Below (w.heap.size + 5) W6 ((wr.setCell ⟨gg, q * 2, none⟩ u).setCell ⟨gg, q * 2 + 1, none⟩ v) ∧ ((wr.setCell ⟨gg, q * 2, none⟩ u).setCell ⟨gg, q * 2 + 1, none⟩ v).heap[Bx]? = some (.cells #[.int .i64 x.n.k, .int .i64 x.n.m, .int .i64 x.n.lo, .int .i64 x.n.hi, .slice (some ⟨gg, 0, none⟩) x.n.r.length cc, .slice none 0 0] 44 (0, 0)) ∧ ∃ inner, ((wr.setCell ⟨gg, q * 2, none⟩ u).setCell ⟨gg, q * 2 + 1, none⟩ v).ownsRow (w.heap.size + 8) 64 2 (.slice (some ⟨gg, 0, none⟩) x.n.r.length cc) x.n.r.length inner := fun u v =>
          ⟨(hk.setRow (p := ⟨gg, q * 2, none⟩) (by omega) (by simp only; omega) hgW u).setRow (p := ⟨gg, q * 2 + 1, none⟩) (by omega) (by simp only; omega) hgW v,
           (Below.heap_setCell _ _ _ _ (by simp only; omega)).trans ((Below.heap_setCell _ _ _ _ (by simp only; omega)).trans hbx),
           (hbe.setCell (p := ⟨gg, q * 2, none⟩) (by simp only; omega) u).setCell (p := ⟨gg, q * 2 + 1, none⟩) (by simp only; omega) v,
           (Below.heap_setCell _ _ _ _ (by simp only; omega)).trans ((Below.heap_setCell _ _ _ _ (by simp only; omega)).trans hxx),
           ⟨_, ((hown.stored (q * 2) u).1.stored (q * 2 + 1) v).1⟩⟩
        have HX := Lib.hid hX
        clear hX hk hbx hbe hxx hown hgW hin e6 hne
        gi_wp2_with fail
        gi_roundg (x.n.r.length - (q + 1))
        case measure => omega
        case rel => exact ⟨q + 1, congrArg (Value.int .i64) (by first | (push_cast; rfl) | (rw [w64_lit _ (by omega) (by have := HQL.out; omega)]; push_cast; rfl)), by omega, Nat.le_refl _, ⟨HX.out _ _⟩⟩
      · obtain rfl : q = x.n.r.length := by omega
        have hlt' : ¬ (x.n.r.length : Int) < (x.n.r.length : Int) := by omega
        obtain ⟨hk, hbx, hbe, hxx, hown⟩ := HQ.out
        have ci := hbx.cell
        have fi := hbx.frozen
        have cm := cell_heap (i := 0) ((hbe.block (w.heap.size + 2) (by omega)).trans HM6.out) rfl
        have e6 := HS6.out
        have HKB := Lib.hid (hk.setCell (p := ⟨w.heap.size + 5, 0, none⟩) (by simp only; omega) (by simp only; omega) (.int .i64 ((j : Int) + 1)))
        have HBB := Lib.hid (hbx.set (.int .i64 ((j : Int) + 1)))
        have HEE := Lib.hid (hbe.setCell (p := ⟨w.heap.size + 5, 0, none⟩) (by simp only; omega) (.int .i64 ((j : Int) + 1)))
        have hwj : wrap64 ((j : Int) + 1) = (j : Int) + 1 := w64_lit _ (by omega) (by have := HX2.out; have := HXL.out; omega)
        have HLE := Lib.hid (show ((pre ++ [x]).length : Int) = (j : Int) + 1 by rw [HJ.out]; simp)
        clear hk hbx hbe hxx hown e6
        by_cases hjM : (j : Int) + 1 = M
        · have hjb : ((j : Int) + 1 == M) = true := beq_iff_eq.2 hjM
          have HG := Lib.hid (show (!decide ((pre.length : Int) + 1 = M)) = false by rw [← HJ.out]; simp [hjM])
          have HJM := Lib.hid hjM
          clear hjM
          gi_wp2_with fail
          exact ⟨HG.out, HKB.out, rfl, by rw [HLE.out]; exact HBB.out, HEE.out, by rw [HLE.out]; exact HJM.out⟩
        · have hjb : ((j : Int) + 1 == M) = false := beq_eq_false_iff_ne.2 hjM
          have HG := Lib.hid (show (!decide ((pre.length : Int) + 1 = M)) = true by rw [← HJ.out]; simp [hjM])
          have HJM := Lib.hid (show (j : Int) + 1 < M by omega)
          clear hjM
          gi_wp2_with fail
          exact ⟨HG.out, HKB.out, by rw [HLE.out]; exact HBB.out, HEE.out, by rw [HLE.out]; exact HJM.out⟩
  case hdone =>
    rintro W ⟨hbi, hbel, hlM⟩ hs hK
    have hxl := HXL.out
    have ci := hbi.cell
    rw [hxl] at ci
    rw [hxl] at hlM
    have hmm : min (L.length : Int) M = (L.length : Int) := by omega
    have heq := beq_self_eq_true (L.length : Int)
    have e6 := HS6.out
    have hlb := (hbel.block (w.heap.size + 1) (by omega)).trans HL6.out
    have hmb := (hbel.block (w.heap.size + 2) (by omega)).trans HM6.out
    have hob := (hbel.block (w.heap.size + 3) (by omega)).trans HO6.out
    have cl := cell_heap (i := 0) hlb rfl
    have cm := cell_heap (i := 0) hmb rfl
    have co := cell_heap (i := 0) hob rfl
    have fo : W.frozen? ⟨w.heap.size + 3, 0, none⟩ = false := by simp [World.frozen?, hob]
    have HKK := Lib.hid hK
    have HWW := Lib.hid (show Below w.heap.size w W from HB6.out.trans (hbel.mono (by omega)))
    have HS := Lib.hid hs
    have HCO := Lib.hid co
    clear hK hbel hbi hlb hmb hob hs e6
    gi_wp2_with fail
    have e6 := HS6.out
    have hne6 : W6.heap.size ≠ w.heap.size + 3 := by omega
    have hdf : (W.setCell ⟨w.heap.size + 3, 0, none⟩ (.bool true)).heap[W6.heap.size]? = some (.deferred (some [])) := (Below.heap_setCell _ _ _ _ hne6).trans HKK.out
    have e1 : ∀ ob : Obj, ((W.setCell ⟨w.heap.size + 3, 0, none⟩ (.bool true)).putObj W6.heap.size ob).cell? ⟨w.heap.size + 3, 0, none⟩ = some (.bool true) := fun ob => by
      rw [World.cell?_of_block (w := W.setCell ⟨w.heap.size + 3, 0, none⟩ (.bool true)) (a := ⟨w.heap.size + 3, 0, none⟩) (World.putObj_heap_other (fun e => hne6 e.symm))]
      first | exact World.cell?_setCell_same _ _ HCO.out | exact World.cell?_setCell_same _ _ _ HCO.out
    refine ⟨by simp, .inl ⟨_, _, rfl, run_takeDeferred hdf, ?_⟩⟩
    refine ⟨.bool true, ?_, rfl, ?_⟩
    · simp [results, Try.results66, go_sem, e1]
    · exact (HWW.out.setCell (p := ⟨w.heap.size + 3, 0, none⟩) (by simp only; omega) _).trans (below_putObj _ _ (by omega))
  case hstop =>
    rintro c2 pre W hpre ⟨rfl, hbi, hbel, hlM⟩ hs hK
    have hple : pre.length ≤ L.length := by rw [← HXL.out]; exact hpre.length_le
    have ci := hbi.cell
    rw [hlM] at ci
    have hmm : min (L.length : Int) M = M := by omega
    have heq := beq_self_eq_true M
    clear hple hpre
    have e6 := HS6.out
    have hlb := (hbel.block (w.heap.size + 1) (by omega)).trans HL6.out
    have hmb := (hbel.block (w.heap.size + 2) (by omega)).trans HM6.out
    have hob := (hbel.block (w.heap.size + 3) (by omega)).trans HO6.out
    have cl := cell_heap (i := 0) hlb rfl
    have cm := cell_heap (i := 0) hmb rfl
    have co := cell_heap (i := 0) hob rfl
    have fo : W.frozen? ⟨w.heap.size + 3, 0, none⟩ = false := by simp [World.frozen?, hob]
    have HKK := Lib.hid hK
    have HWW := Lib.hid (show Below w.heap.size w W from HB6.out.trans (hbel.mono (by omega)))
    have HS := Lib.hid hs
    have HCO := Lib.hid co
    clear hK hbel hbi hlb hmb hob hs e6
    gi_wp2_with fail
    have e6 := HS6.out
    have hne6 : W6.heap.size ≠ w.heap.size + 3 := by omega
    have hdf : (W.setCell ⟨w.heap.size + 3, 0, none⟩ (.bool true)).heap[W6.heap.size]? = some (.deferred (some [])) := (Below.heap_setCell _ _ _ _ hne6).trans HKK.out
    have e1 : ∀ ob : Obj, ((W.setCell ⟨w.heap.size + 3, 0, none⟩ (.bool true)).putObj W6.heap.size ob).cell? ⟨w.heap.size + 3, 0, none⟩ = some (.bool true) := fun ob => by
      rw [World.cell?_of_block (w := W.setCell ⟨w.heap.size + 3, 0, none⟩ (.bool true)) (a := ⟨w.heap.size + 3, 0, none⟩) (World.putObj_heap_other (fun e => hne6 e.symm))]
      first | exact World.cell?_setCell_same _ _ HCO.out | exact World.cell?_setCell_same _ _ _ HCO.out
    refine ⟨by simp, .inl ⟨_, _, rfl, run_takeDeferred hdf, ?_⟩⟩
    refine ⟨.bool true, ?_, rfl, ?_⟩
    · simp [results, Try.results66, go_sem, e1]
    · exact (HWW.out.setCell (p := ⟨w.heap.size + 3, 0, none⟩) (by simp only; omega) _).trans (below_putObj _ _ (by omega))
end Go.Proofs.Ytamhkdlcoghdbaa.PCls
