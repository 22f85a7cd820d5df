/- The walk over a tree: what it comes to, whatever is done at each coming and each leaving. -/
import Derived.Test.YtamhkdlcoghdbaaTMem
import Derived.Deep.LoopGhost
import Derived.RangeFuncBox
import Derived.Test.YtamhkdlcoghdbaaZLOne
namespace Go.Proofs.Ytamhkdlcoghdbaa.PCls
open Go.RowKit Go.Proofs.YtamhkdlcoghdbaaW.PrintWords Go.Proofs.YtamhkdlcoghdbaaW.PrintLast Go.Proofs.YtamhkdlcoghdbaaW.PrintMore
set_option linter.unusedVariables false
set_option linter.unusedSimpArgs false

/-- what is asked of the nodes that are come to -/
def runOk {σ : Type} (vis : σ → Step → Bool × σ) (lv : σ → Step → σ) (Ok OkL : σ → Step → Prop) : List Ev → σ → Prop
  | [], _ => True
  | .enter t :: l, s => Ok s t ∧ ((vis s t).1 = true → runOk vis lv Ok OkL l (vis s t).2)
  | .leave t :: l, s => OkL s t ∧ runOk vis lv Ok OkL l (lv s t)
theorem runOk_append {σ : Type} (vis : σ → Step → Bool × σ) (lv : σ → Step → σ) (Ok OkL : σ → Step → Prop) (b : List Ev) : ∀ (a : List Ev) (s : σ), runOk vis lv Ok OkL (a ++ b) s → runOk vis lv Ok OkL a s ∧ ((run vis lv a s).1 = true → runOk vis lv Ok OkL b (run vis lv a s).2) := by
  intro a
  induction a with
  | nil => intro s h; exact ⟨trivial, fun _ => h⟩
  | cons x a ih =>
    intro s h
    cases x with
    | enter t =>
      refine ⟨⟨h.1, fun hv => (ih _ (h.2 hv)).1⟩, fun hr => ?_⟩
      cases hv : (vis s t).1
      · rw [run_stop hv] at hr; simp at hr
      · rw [run_enter hv] at hr ⊢
        exact (ih _ (h.2 hv)).2 hr
    | leave t => exact ⟨⟨h.1, (ih _ h.2).1⟩, (ih _ h.2).2⟩
theorem runOk_true {σ : Type} (vis : σ → Step → Bool × σ) (lv : σ → Step → σ) : ∀ (a : List Ev) (s : σ), runOk vis lv (fun _ _ => True) (fun _ _ => True) a s := by
  intro a
  induction a with
  | nil => intro s; trivial
  | cons x a ih =>
    intro s
    cases x with
    | enter t => exact ⟨trivial, fun _ => ih _⟩
    | leave t => exact ⟨trivial, ih _⟩

theorem cell_heap {w : World} {b i : Nat} {cs : Array Value} {t : TypeId} {v : Value} (h : w.heap[b]? = some (.cells cs t (0, 0))) (hi : cs[i]? = some v) : w.cell? ⟨b, i, none⟩ = some v := by
  simp [World.cell?, h, hi]

/-- what is owed of what is done at the nodes -/
structure Visit {σ : Type} (vis : σ → Step → Bool × σ) (lv : σ → Step → σ) (Ok OkL : σ → Step → Prop) (Inv : σ → World → Prop) (Pt : Nat → Prop) (K : World → World → Prop) (N0 : Nat) (kv kl : Nat) (cv cl : Array Value) : Prop where
  trans : ∀ {A B C}, K A B → K B C → K A C
  below : ∀ {A B}, Below A.heap.size A B → N0 ≤ A.heap.size → K A B
  size : ∀ {A B}, K A B → A.heap.size ≤ B.heap.size
  tree : ∀ {A B}, K A B → N0 ≤ A.heap.size → ∀ b, Pt b → B.heap[b]? = A.heap[b]?
  box : ∀ {A B b cells t fr}, K A B → N0 ≤ b → A.heap[b]? = some (.cells cells t fr) → (t = 44 ∨ t = 78) → B.heap[b]? = A.heap[b]?
  inv : ∀ {st A B}, Inv st A → Below A.heap.size A B → Inv st B
  low : ∀ b, Pt b → b < N0
  ev : ∀ args w, (callFunc kv args).run Try.prog w = .ok (.enter kv args) w
  el : ∀ args w, (callFunc kl args).run Try.prog w = .ok (.enter kl args) w
  hv : ∀ st s cs w, N0 ≤ w.heap.size → NIn w Pt s.n cs → Inv st w → Ok st s → Calls Try.prog kv (#[stepV cs s] ++ cv) w fun e w' => e = .returned (.bool (vis st s).1) ∧ Inv (vis st s).2 w' ∧ ((vis st s).1 = true → K w w')
  hl : ∀ st s cs w, N0 ≤ w.heap.size → NIn w Pt s.n cs → Inv st w → OkL st s → Calls Try.prog kl (#[stepV cs s] ++ cl) w fun e w' => e = .returned (.tuple #[]) ∧ Inv (lv st s) w' ∧ K w w'

set_option maxHeartbeats 4000000 in
set_option maxRecDepth 100000 in
theorem walk_calls {σ : Type} {vis : σ → Step → Bool × σ} {lv : σ → Step → σ} {Ok OkL : σ → Step → Prop} {Inv : σ → World → Prop} {Pt : Nat → Prop} {K : World → World → Prop} {N0 : Nat} {kv kl : Nat} {cv cl : Array Value}
    (V : Visit vis lv Ok OkL Inv Pt K N0 kv kl cv cl) : ∀ (N : Nat) (s : Step) (cs : List Value) (w : World) (st : σ), s.n.nodes ≤ N → N0 ≤ w.heap.size → NIn w Pt s.n cs → Inv st w → runOk vis lv Ok OkL s.evs st → 0 ≤ s.deep → s.deep + s.n.nodes < 4611686018427387904 →
    Calls Try.prog 80 #[stepV cs s, .func (.func kv) #[] cv, .func (.func kl) #[] cl] w fun e w' => e = .returned (.bool (run vis lv s.evs st).1) ∧ Inv (run vis lv s.evs st).2 w' ∧ ((run vis lv s.evs st).1 = true → K w w') := by
  intro N
  induction N with
  | zero => intro s cs w st h; have := s.n.nodes_pos; omega
  | succ N ih =>
    intro s cs w st hN hw hT hI hok hd0 hd1
    obtain ⟨S, hS⟩ : ∃ S, S = s := ⟨_, rfl⟩
    obtain ⟨n, d, a, f, l, b⟩ := s
    obtain ⟨T, hTe⟩ : ∃ T, T = n := ⟨_, rfl⟩
    have hT0 := hT
    cases hT with
    | mk k m lo hi r kids ar ak cr ck csk hr hrb hcr hrl hin hck hkl hk ha =>
      simp only at hd0 hd1
      obtain ⟨w1, hw1⟩ : ∃ w1, w1 = w.alloc (.cells #[.int .i64 k, .int .i64 m, .int .i64 lo, .int .i64 hi, .slice ar r.length cr, .slice ak kids.length ck, .int .i64 d, .int .i64 a, .bool f, .bool l, .bool b] 78) := ⟨_, rfl⟩
      have hb1 : Below w.heap.size w w1 := by rw [hw1]; exact (Below.refl _ w).alloc (Nat.le_refl _) _
      have hbox1 : w1.heap[w.heap.size]? = some (.cells #[.int .i64 k, .int .i64 m, .int .i64 lo, .int .i64 hi, .slice ar r.length cr, .slice ak kids.length ck, .int .i64 d, .int .i64 a, .bool f, .bool l, .bool b] 78 (0, 0)) := by rw [hw1]; exact World.alloc_heap_new w _
      have hs1 : N0 ≤ w1.heap.size := by rw [hw1]; simp; omega
      have hNT1 := hT0.move (fun b hp => hb1.block b (Nat.lt_of_lt_of_le (V.low b hp) hw))
      have hv := V.hv st _ _ w1 hs1 hNT1 (V.inv hI hb1) (by rw [Step.evs_eq] at hok; exact hok.1)
      have hev := V.ev
      have hel := V.el
      have hsv : stepV [.int .i64 k, .int .i64 m, .int .i64 lo, .int .i64 hi, .slice ar r.length cr, .slice ak kids.length ck] ⟨.mk k m lo hi r kids, d, a, f, l, b⟩ = .agg #[.int .i64 k, .int .i64 m, .int .i64 lo, .int .i64 hi, .slice ar r.length cr, .slice ak kids.length ck, .int .i64 d, .int .i64 a, .bool f, .bool l, .bool b] := rfl
      rw [hsv] at hv ⊢
      rw [← hS] at hok hv ⊢
      rw [Step.evs_eq] at hok ⊢
      cases hvis : (vis st S).1
      · -- no more is wanted
        rw [run_stop hvis]
        rw [hvis] at hv
        have HV := Lib.hid hv
        clear hbox1 hv hok hT0 hNT1 hI hd0 hd1 hb1 hr hrb hk ha ih hN hel V hvis hs1 hw hS hTe hck hcr hin hrl hkl
        subst hw1
        go_enter Try.func80, Try.ntmps80
        go_wp2_with fail
        refine HV.out.mono ?_
        rintro e w2 ⟨rfl, hI2, _⟩
        go_wp2
        go_ret
        exact ⟨rfl, hI2, fun h => by simp at h⟩
      · rw [run_enter hvis]
        rw [hvis] at hv
        have HV := Lib.hid hv
        have HOK := Lib.hid (hok.2 hvis)
        have HBX := Lib.hid hbox1
        have HB1 := Lib.hid hb1
        have HT := Lib.hid hT0
        have HE := Lib.hid hel
        have HD := Lib.hid (And.intro hd0 hd1)
        have HIH := Lib.hid ih
        have HVV := Lib.hid V
        have HS := Lib.hid hS
        have HK := Lib.hid (And.intro hck hkl)
        have HN := Lib.hid hN
        have HW := Lib.hid hw
        have HS1 := Lib.hid hs1
        clear hbox1 hv hok hT0 hNT1 hI hd0 hd1 hb1 hr hrb hk ha ih hN hel V hvis hs1 hw hS hTe hck hcr hin hrl hkl
        subst hw1
        go_enter Try.func80, Try.ntmps80
        go_wp2_with fail
        refine HV.out.mono ?_
        rintro e w2 ⟨rfl, hI2, hK2⟩
        have HI2 := Lib.hid hI2
        have HK2 := Lib.hid (hK2 trivial)
        have hbx2 := (HVV.out.box HK2.out HW.out HBX.out (.inr rfl)).trans HBX.out
        have c5 := cell_heap (i := 5) hbx2 rfl
        clear hI2 hK2 hbx2
        go_wp2_with fail
        go_loopg [18] kids.length (fun gg s18 wr => ∃ (j : Nat) (stj : σ), s18 = .int .i64 j ∧ j ≤ kids.length ∧ kids.length - j ≤ gg ∧ Aside0 (Inv stj wr) ∧ Aside0 (K w2 wr) ∧ Aside0 (run vis lv (S.kidsFrom 0 ++ [.leave S]) (vis st S).2 = run vis lv (S.kidsFrom j ++ [.leave S]) stj) ∧ Aside0 (runOk vis lv Ok OkL (S.kidsFrom j ++ [.leave S]) stj))
        case atStart => exact ⟨0, _, rfl, by omega, by omega, ⟨HI2.out⟩, ⟨HVV.out.below (Below.refl _ _) (Nat.le_trans HS1.out (HVV.out.size HK2.out))⟩, ⟨rfl⟩, ⟨HOK.out⟩⟩
        case round =>
          obtain ⟨j, stj, rfl, hj, hgg, HIj, HKj, HRj, HOj⟩ := hrel
          have hsw2 : N0 ≤ w2.heap.size := Nat.le_trans HS1.out (HVV.out.size HK2.out)
          have hswr : N0 ≤ wr.heap.size := Nat.le_trans hsw2 (HVV.out.size HKj.out)
          have hbx1 := (HVV.out.box HK2.out HW.out HBX.out (.inr rfl)).trans HBX.out
          have hbxr := (HVV.out.box HKj.out HW.out hbx1 (.inr rfl)).trans hbx1
          by_cases hlt : j < kids.length
          · have hlt' : (j : Int) < (kids.length : Int) := by omega
            have c0 := cell_heap (i := 0) hbxr rfl
            have c5 := cell_heap (i := 5) hbxr rfl
            have c6 := cell_heap (i := 6) hbxr rfl
            have c10 := cell_heap (i := 10) hbxr rfl
            have hNTr : NIn wr Pt (.mk k m lo hi r kids) [.int .i64 k, .int .i64 m, .int .i64 lo, .int .i64 hi, .slice ar r.length cr, .slice ak kids.length ck] := HT.out.move (fun b hp => by
              rw [HVV.out.tree HKj.out hsw2 b hp, HVV.out.tree HK2.out HS1.out b hp]
              exact HB1.out.block b (Nat.lt_of_lt_of_le (HVV.out.low b hp) HW.out))
            obtain ⟨t, ht⟩ : ∃ t, kids[j]? = some t := ⟨_, List.getElem?_eq_getElem hlt⟩
            obtain ⟨ad, cs', rfl, hPad, hNt, hcell⟩ := hNTr.kid ht
            have HNt := Lib.hid hNt
            have HTt := Lib.hid ht
            cases hNt with
            | mk tk tm tlo thi tr tkids tar tak tcr tck tcsk _ _ _ _ _ _ _ _ _ =>
              have x0 := hcell 0 _ rfl
              rw [Nat.add_zero] at x0
              have x1 := cell_at hcell 1 (by decide) rfl
              have x2 := cell_at hcell 2 (by decide) rfl
              have x3 := cell_at hcell 3 (by decide) rfl
              have x4 := cell_at hcell 4 (by decide) rfl
              have x5 := cell_at hcell 5 (by decide) rfl
              have HP := Lib.hid hPad
              clear hcell hNTr ht hPad hbx1 hbxr
              rename_i q1 q2 q3 q4 q5 q6 q7 q8 q9
              clear q1 q2 q3 q4 q5 q6 q7 q8 q9
              have A0 : ∀ o, (wr.alloc o).cell? ⟨w.heap.size, 0, none⟩ = some (.int .i64 k) := fun o => Lib.cell?_alloc_some _ c0
              have A5 : ∀ o, (wr.alloc o).cell? ⟨w.heap.size, 5, none⟩ = some (.slice (some ad) kids.length ck) := fun o => Lib.cell?_alloc_some _ c5
              have A6 : ∀ o, (wr.alloc o).cell? ⟨w.heap.size, 6, none⟩ = some (.int .i64 d) := fun o => Lib.cell?_alloc_some _ c6
              have B0 : ∀ o o', ((wr.alloc o).alloc o').cell? ⟨w.heap.size, 0, none⟩ = some (.int .i64 k) := fun o o' => Lib.cell?_alloc_some _ (A0 o)
              have B10 : ∀ o o', ((wr.alloc o).alloc o').cell? ⟨w.heap.size, 10, none⟩ = some (.bool b) := fun o o' => Lib.cell?_alloc_some _ (Lib.cell?_alloc_some _ c10)
              clear c0 c5 c6 c10
              have hnext : S.kidsFrom j ++ [.leave S] = (S.kid j (.mk tk tm tlo thi tr tkids)).evs ++ (S.kidsFrom (j + 1) ++ [.leave S]) := by rw [Step.kidsFrom_next S j _ (by rw [HS.out]; exact HTt.out), List.append_assoc]
              have hrun := HRj.out
              have hok := HOj.out
              rw [hnext] at hrun hok
              obtain ⟨hok1, hok2⟩ := runOk_append vis lv Ok OkL _ _ _ hok
              obtain ⟨hr1, hr2⟩ := run_append vis lv (S.kidsFrom (j + 1) ++ [.leave S]) (S.kid j (.mk tk tm tlo thi tr tkids)).evs stj
              obtain ⟨KE, hKE⟩ : ∃ KE, KE = (S.kid j (.mk tk tm tlo thi tr tkids)).evs := ⟨_, rfl⟩
              have IH : ∀ (W : World) (x y : Int) (p q g : Bool), d + 1 = x → k = y → decide (j = 0) = p → decide (j + 1 = kids.length) = q → branchOf k b = g → Below wr.heap.size wr W →
                  Calls Try.prog 80 #[.agg #[.int .i64 tk, .int .i64 tm, .int .i64 tlo, .int .i64 thi, .slice tar tr.length tcr, .slice tak tkids.length tck, .int .i64 x, .int .i64 y, .bool p, .bool q, .bool g], .func (.func kv) #[] cv, .func (.func kl) #[] cl] W
                    fun e w' => e = .returned (.bool (run vis lv KE stj).1) ∧ Inv (run vis lv KE stj).2 w' ∧ ((run vis lv KE stj).1 = true → K wr w') := by
                intro W x y p q g h1 h2 h3 h4 h5 hW
                subst h1 h2 h3 h4 h5
                have hn := NT.nodes_kid (List.mem_of_getElem? HTt.out)
                have h6 := HN.out
                have h7 := HD.out
                simp only [NT.nodes] at h6 h7 hn
                have hwr := HIH.out (S.kid j (.mk tk tm tlo thi tr tkids)) [.int .i64 tk, .int .i64 tm, .int .i64 tlo, .int .i64 thi, .slice tar tr.length tcr, .slice tak tkids.length tck] W stj
                  (by simp only [Step.kid, NT.nodes]; omega) (Nat.le_trans hswr hW.size) (HNt.out.move (fun b hp => hW.block b (Nat.lt_of_lt_of_le (HVV.out.low b hp) hswr))) (HVV.out.inv HIj.out hW) hok1
                  (by rw [HS.out]; simp only [Step.kid]; omega) (by rw [HS.out]; simp only [Step.kid, NT.nodes]; omega)
                rw [show stepV [.int .i64 tk, .int .i64 tm, .int .i64 tlo, .int .i64 thi, .slice tar tr.length tcr, .slice tak tkids.length tck] (S.kid j (.mk tk tm tlo thi tr tkids)) = .agg #[.int .i64 tk, .int .i64 tm, .int .i64 tlo, .int .i64 thi, .slice tar tr.length tcr, .slice tak tkids.length tck, .int .i64 (d + 1), .int .i64 k, .bool (decide (j = 0)), .bool (decide (j + 1 = kids.length)), .bool (branchOf k b)] from by rw [HS.out]; rfl, ← hKE] at hwr
                exact hwr.mono fun e w' h => ⟨h.1, h.2.1, fun hr => HVV.out.trans (HVV.out.below hW hswr) (h.2.2 hr)⟩
              have hd : wrap64 (d + 1) = d + 1 := w64_lit _ (by have := HD.out; omega) (by have := HD.out; omega)
              have HIH2 := Lib.hid IH
              rw [← hKE] at hrun hok2 hr1 hr2
              have H1 := Lib.hid hr1
              have H2 := Lib.hid hr2
              have H3 := Lib.hid hrun
              have H4 := Lib.hid hok2
              clear hr1 hr2 hrun hok2 IH hok hok1 hnext hKE
              have hk4 : k = 7 ∨ k = 6 ∨ k = 5 ∨ (((k == 7) = false ∧ (k == 6) = false ∧ (k == 5) = false) ∧ branchOf k b = false) := by
                by_cases h7 : k = 7
                · exact .inl h7
                · by_cases h6 : k = 6
                  · exact .inr (.inl h6)
                  · by_cases h5 : k = 5
                    · exact .inr (.inr (.inl h5))
                    · exact .inr (.inr (.inr ⟨⟨beq_eq_false_iff_ne.2 h7, beq_eq_false_iff_ne.2 h6, beq_eq_false_iff_ne.2 h5⟩, by simp [branchOf, h7, h6, h5]⟩))
              rcases hk4 with rfl | rfl | rfl | ⟨⟨h7, h6, h5⟩, hbr⟩
              all_goals
                go_wp2_with fail
                refine (HIH2.out _ _ _ _ _ _ ?x1 ?x2 ?x3 ?x4 ?x5 ?x6).mono ?_
                case x1 => first | rfl | exact hd.symm
                case x2 => first | rfl | omega
                case x3 => by_cases h : j = 0 <;> simp [h]
                case x4 =>
                  have hw : wrap64 ((kids.length : Int) - 1) = (kids.length : Int) - 1 := w64_lit _ (by omega) (by have := HK.out; omega)
                  first
                    | (rw [hw, Bool.eq_iff_iff, decide_eq_true_eq, beq_iff_eq]; omega)
                    | (rw [Bool.eq_iff_iff, decide_eq_true_eq, beq_iff_eq]; omega)
                case x5 => first | rfl | exact hbr | simp [branchOf, *]
                case x6 => exact ((Below.refl _ wr).alloc (Nat.le_refl _) _).alloc (by simp) _
                rintro e w4 ⟨rfl, hI4, hK4⟩
                have HI4 := Lib.hid hI4
                have HK4 := Lib.hid hK4
                clear hI4 hK4
                cases hr : (run vis lv KE stj).1
                · have HR := Lib.hid hr
                  clear hr
                  go_wp2
                  go_ret
                  have e1 := H3.out.trans (H2.out HR.out)
                  rw [e1]
                  exact ⟨by rw [HR.out]; rfl, HI4.out, fun h => by rw [HR.out] at h; simp at h⟩
                · have HR := Lib.hid hr
                  clear hr
                  go_wp2
                  go_roundg (kids.length - (j + 1))
                  case measure => omega
                  case rel => exact ⟨j + 1, _, congrArg (Value.int .i64) (by rw [w64_lit _ (by omega) (by have := HK.out; omega)]; push_cast; rfl), by omega, Nat.le_refl _, ⟨HI4.out⟩, ⟨HVV.out.trans HKj.out (HK4.out HR.out)⟩, ⟨H3.out.trans (H1.out HR.out)⟩, ⟨H4.out HR.out⟩⟩
          · obtain rfl : j = kids.length := by omega
            have hlt' : ¬ (kids.length : Int) < (kids.length : Int) := by omega
            have hrun := HRj.out
            rw [Step.kidsFrom_end S kids.length (by rw [HS.out]; exact Nat.le_refl _)] at hrun
            have c : ∀ i v, (#[Value.int .i64 k, .int .i64 m, .int .i64 lo, .int .i64 hi, .slice ar r.length cr, .slice ak kids.length ck, .int .i64 d, .int .i64 a, .bool f, .bool l, .bool b] : Array Value)[i]? = some v → wr.cell? ⟨w.heap.size, i, none⟩ = some v := fun i v h => cell_heap hbxr h
            have c0 := c 0 _ rfl
            have c1 := c 1 _ rfl
            have c2 := c 2 _ rfl
            have c3 := c 3 _ rfl
            have c4 := c 4 _ rfl
            have c5 := c 5 _ rfl
            have c6 := c 6 _ rfl
            have c7 := c 7 _ rfl
            have c8 := c 8 _ rfl
            have c9 := c 9 _ rfl
            have c10 := c 10 _ rfl
            have hNTr : NIn wr Pt (.mk k m lo hi r kids) [.int .i64 k, .int .i64 m, .int .i64 lo, .int .i64 hi, .slice ar r.length cr, .slice ak kids.length ck] := HT.out.move (fun b hp => by
              rw [HVV.out.tree HKj.out hsw2 b hp, HVV.out.tree HK2.out HS1.out b hp]
              exact HB1.out.block b (Nat.lt_of_lt_of_le (HVV.out.low b hp) HW.out))
            have hokl := HOj.out
            rw [Step.kidsFrom_end S kids.length (by rw [HS.out]; exact Nat.le_refl _)] at hokl
            have hl := HVV.out.hl stj ⟨.mk k m lo hi r kids, d, a, f, l, b⟩ _ wr hswr hNTr HIj.out (by rw [← HS.out]; exact hokl.1)
            rw [show stepV [.int .i64 k, .int .i64 m, .int .i64 lo, .int .i64 hi, .slice ar r.length cr, .slice ak kids.length ck] ⟨.mk k m lo hi r kids, d, a, f, l, b⟩ = .agg #[.int .i64 k, .int .i64 m, .int .i64 lo, .int .i64 hi, .slice ar r.length cr, .slice ak kids.length ck, .int .i64 d, .int .i64 a, .bool f, .bool l, .bool b] from rfl, ← HS.out] at hl
            have HL := Lib.hid hl
            have HR2 := Lib.hid hrun
            have hel := HE.out
            clear c hl hrun hbx1 hbxr hNTr hokl
            go_wp2_with fail
            refine HL.out.mono ?_
            rintro e w3 ⟨rfl, hI3, hK3⟩
            go_wp2
            go_ret
            rw [HR2.out]
            exact ⟨rfl, hI3, fun _ => HVV.out.trans (HVV.out.below HB1.out HW.out) (HVV.out.trans HK2.out (HVV.out.trans HKj.out hK3))⟩
end Go.Proofs.Ytamhkdlcoghdbaa.PCls
