/- Put together (wip/tools/pack.py): QTWalk, QTRange, QTCount. -/
import Derived.Test.YtamhkdlcoghdbaaGreatDoorVMQZPClsx1
import Derived.RangeFuncNested
import Derived.RangeFuncBound
import Derived.RangeFuncCalls
import Derived.RangeFuncLeaves
import Derived.Shelf.Abstract
import Derived.Shelf.RegionOpen
import Derived.OwnWalkIn
import Derived.TacticsInMore
import Derived.LoopNIn
import Derived.LoopIn
/- Out of TWalk (wip/tools/prune2.py): the declarations alone that the texts of the trees name. -/
namespace Go.Proofs.YtamhkdlcoghdbaaGreatDoor.PCls
open Go.RowKit Go.Proofs.YtamhkdlcoghdbaaGreatDoorW.PrintWords Go.Proofs.YtamhkdlcoghdbaaGreatDoorW.PrintLast Go.Proofs.YtamhkdlcoghdbaaGreatDoorW.PrintMore
set_option linter.unusedVariables false
set_option linter.unusedSimpArgs false
/-- what is asked of the nodes that are come to -/
def runOk {σ : Type} (vis : σ → Step → Bool × σ) (lv : σ → Step → σ) (Ok OkL : σ → Step → Prop) : List Ev → σ → Prop
 | [], _ => True
 | .enter t :: l, s => Ok s t ∧ ((vis s t).1 = true → runOk vis lv Ok OkL l (vis s t).2)
 | .leave t :: l, s => OkL s t ∧ runOk vis lv Ok OkL l (lv s t)
theorem runOk_append {σ : Type} (vis : σ → Step → Bool × σ) (lv : σ → Step → σ) (Ok OkL : σ → Step → Prop) (b : List Ev) : ∀ (a : List Ev) (s : σ), runOk vis lv Ok OkL (a ++ b) s → runOk vis lv Ok OkL a s ∧ ((run vis lv a s).1 = true → runOk vis lv Ok OkL b (run vis lv a s).2) := by
 intro a
 induction a with
 | nil => intro s h; exact ⟨trivial, fun _ => h⟩
 | cons x a ih =>
  intro s h
  cases x with
  | enter t =>
   refine ⟨⟨h.1, fun hv => (ih _ (h.2 hv)).1⟩, fun hr => ?_⟩
   cases hv : (vis s t).1
   ·rw [run_stop hv] at hr; simp at hr
   ·rw [run_enter hv] at hr ⊢
    exact (ih _ (h.2 hv)).2 hr
  | leave t => exact ⟨⟨h.1, (ih _ h.2).1⟩, (ih _ h.2).2⟩
theorem cell_heap {w : World} {b i : Nat} {cs : Array Value} {t : TypeId} {v : Value} (h : w.heap[b]? = some (.cells cs t (0, 0))) (hi : cs[i]? = some v) : w.cell? ⟨b, i, none⟩ = some v := by
 simp [World.cell?, h, hi]
/-- what is owed of what is done at the nodes -/
structure Visit {σ : Type} (vis : σ → Step → Bool × σ) (lv : σ → Step → σ) (Ok OkL : σ → Step → Prop) (Inv : σ → World → Prop) (Pt : Nat → Prop) (K : World → World → Prop) (N0 : Nat) (kv kl : Nat) (cv cl : Array Value) : Prop where
 trans : ∀ {A B C}, K A B → K B C → K A C
 below : ∀ {A B}, Below A.heap.size A B → N0 ≤ A.heap.size → K A B
 size : ∀ {A B}, K A B → A.heap.size ≤ B.heap.size
 tree : ∀ {A B}, K A B → N0 ≤ A.heap.size → ∀ b, Pt b → B.heap[b]? = A.heap[b]?
 box : ∀ {A B b cells t fr}, K A B → N0 ≤ b → A.heap[b]? = some (.cells cells t fr) → (t = 43 ∨ t = 121) → B.heap[b]? = A.heap[b]?
 inv : ∀ {st A B}, Inv st A → Below A.heap.size A B → Inv st B
 low : ∀ b, Pt b → b < N0
 ev : ∀ args w, (callFunc kv args).run Tryz.prog w = .ok (.enter kv args) w
 el : ∀ args w, (callFunc kl args).run Tryz.prog w = .ok (.enter kl args) w
 hv : ∀ st s cs w, N0 ≤ w.heap.size → NIn w Pt s.n cs → Inv st w → Ok st s → Calls Tryz.prog kv (#[stepV cs s] ++ cv) w fun e w' => e = .returned (.bool (vis st s).1) ∧ Inv (vis st s).2 w' ∧ ((vis st s).1 = true → K w w')
 hl : ∀ st s cs w, N0 ≤ w.heap.size → NIn w Pt s.n cs → Inv st w → OkL st s → Calls Tryz.prog kl (#[stepV cs s] ++ cl) w fun e w' => e = .returned (.tuple #[]) ∧ Inv (lv st s) w' ∧ K w w'
set_option maxHeartbeats 4000000 in
set_option maxRecDepth 100000 in
theorem walk_calls {σ : Type} {vis : σ → Step → Bool × σ} {lv : σ → Step → σ} {Ok OkL : σ → Step → Prop} {Inv : σ → World → Prop} {Pt : Nat → Prop} {K : World → World → Prop} {N0 : Nat} {kv kl : Nat} {cv cl : Array Value}
  (V : Visit vis lv Ok OkL Inv Pt K N0 kv kl cv cl) : ∀ (N : Nat) (s : Step) (cs : List Value) (w : World) (st : σ), s.n.nodes ≤ N → N0 ≤ w.heap.size → NIn w Pt s.n cs → Inv st w → runOk vis lv Ok OkL s.evs st → 0 ≤ s.deep → s.deep + s.n.nodes < 4611686018427387904 →
  Calls Tryz.prog 66 #[stepV cs s, .func (.func kv) #[] cv, .func (.func kl) #[] cl] w fun e w' => e = .returned (.bool (run vis lv s.evs st).1) ∧ Inv (run vis lv s.evs st).2 w' ∧ ((run vis lv s.evs st).1 = true → K w w') := by
 intro N
 induction N with
 | zero => intro s cs w st h; have := s.n.nodes_pos; omega
 | succ N ih =>
  intro s cs w st hN hw hT hI hok hd0 hd1
  obtain ⟨S, hS⟩ : ∃ S, S = s := ⟨_, rfl⟩
  obtain ⟨n, d, a, f, l, b⟩ := s
  obtain ⟨T, hTe⟩ : ∃ T, T = n := ⟨_, rfl⟩
  have hT0 := hT
  cases hT with
  | mk k m lo hi r kids ar ak cr ck csk hr hrb hcr hrl hin hck hkl hk ha =>
   simp only at hd0 hd1
   obtain ⟨w1, hw1⟩ : ∃ w1, w1 = w.alloc (.cells #[.int .i64 k, .int .i64 m, .int .i64 lo, .int .i64 hi, .slice ar r.length cr, .slice ak kids.length ck, .int .i64 d, .int .i64 a, .bool f, .bool l, .bool b] 121) := ⟨_, rfl⟩
   have hb1 : Below w.heap.size w w1 := by rw [hw1]; exact (Below.refl _ w).alloc (Nat.le_refl _) _
   have hbox1 : w1.heap[w.heap.size]? = some (.cells #[.int .i64 k, .int .i64 m, .int .i64 lo, .int .i64 hi, .slice ar r.length cr, .slice ak kids.length ck, .int .i64 d, .int .i64 a, .bool f, .bool l, .bool b] 121 (0, 0)) := by rw [hw1]; exact World.alloc_heap_new w _
   have hs1 : N0 ≤ w1.heap.size := by rw [hw1]; simp; omega
   have hNT1 := hT0.move (fun b hp => hb1.block b (Nat.lt_of_lt_of_le (V.low b hp) hw))
   have hv := V.hv st _ _ w1 hs1 hNT1 (V.inv hI hb1) (by rw [Step.evs_eq] at hok; exact hok.1)
   have hev := V.ev
   have hel := V.el
   have hsv : stepV [.int .i64 k, .int .i64 m, .int .i64 lo, .int .i64 hi, .slice ar r.length cr, .slice ak kids.length ck] ⟨.mk k m lo hi r kids, d, a, f, l, b⟩ = .agg #[.int .i64 k, .int .i64 m, .int .i64 lo, .int .i64 hi, .slice ar r.length cr, .slice ak kids.length ck, .int .i64 d, .int .i64 a, .bool f, .bool l, .bool b] := rfl
   rw [hsv] at hv ⊢
   rw [← hS] at hok hv ⊢
   rw [Step.evs_eq] at hok ⊢
   cases hvis : (vis st S).1
   ·-- no more is wanted
    rw [run_stop hvis]
    rw [hvis] at hv
    have HV := Lib.hid hv
    clear hbox1 hv hok hT0 hNT1 hI hd0 hd1 hb1 hr hrb hk ha ih hN hel V hvis hs1 hw hS hTe hck hcr hin hrl hkl
    subst hw1
    go_enter Tryz.func66, Tryz.ntmps66
    go_wp2_with fail
    refine HV.out.mono ?_
    rintro e w2 ⟨rfl, hI2, _⟩
    go_wp2
    go_ret
    exact ⟨rfl, hI2, fun h => by simp at h⟩
   ·rw [run_enter hvis]
    rw [hvis] at hv
    have HV := Lib.hid hv
    have HOK := Lib.hid (hok.2 hvis)
    have HBX := Lib.hid hbox1
    have HB1 := Lib.hid hb1
    have HT := Lib.hid hT0
    have HE := Lib.hid hel
    have HD := Lib.hid (And.intro hd0 hd1)
    have HIH := Lib.hid ih
    have HVV := Lib.hid V
    have HS := Lib.hid hS
    have HK := Lib.hid (And.intro hck hkl)
    have HN := Lib.hid hN
    have HW := Lib.hid hw
    have HS1 := Lib.hid hs1
    clear hbox1 hv hok hT0 hNT1 hI hd0 hd1 hb1 hr hrb hk ha ih hN hel V hvis hs1 hw hS hTe hck hcr hin hrl hkl
    subst hw1
    go_enter Tryz.func66, Tryz.ntmps66
    go_wp2_with fail
    refine HV.out.mono ?_
    rintro e w2 ⟨rfl, hI2, hK2⟩
    have HI2 := Lib.hid hI2
    have HK2 := Lib.hid (hK2 trivial)
    have hbx2 := (HVV.out.box HK2.out HW.out HBX.out (.inr rfl)).trans HBX.out
    have c5 := cell_heap (i := 5) hbx2 rfl
    clear hI2 hK2 hbx2
    go_wp2_with fail
    go_loopg [18] kids.length (fun gg s18 wr => ∃ (j : Nat) (stj : σ), s18 = .int .i64 j ∧ j ≤ kids.length ∧ kids.length - j ≤ gg ∧ Aside0 (Inv stj wr) ∧ Aside0 (K w2 wr) ∧ Aside0 (run vis lv (S.kidsFrom 0 ++ [.leave S]) (vis st S).2 = run vis lv (S.kidsFrom j ++ [.leave S]) stj) ∧ Aside0 (runOk vis lv Ok OkL (S.kidsFrom j ++ [.leave S]) stj))
    case atStart => exact ⟨0, _, rfl, by omega, by omega, ⟨HI2.out⟩, ⟨HVV.out.below (Below.refl _ _) (Nat.le_trans HS1.out (HVV.out.size HK2.out))⟩, ⟨rfl⟩, ⟨HOK.out⟩⟩
    case round =>
     obtain ⟨j, stj, rfl, hj, hgg, HIj, HKj, HRj, HOj⟩ := hrel
     have hsw2 : N0 ≤ w2.heap.size := Nat.le_trans HS1.out (HVV.out.size HK2.out)
     have hswr : N0 ≤ wr.heap.size := Nat.le_trans hsw2 (HVV.out.size HKj.out)
     have hbx1 := (HVV.out.box HK2.out HW.out HBX.out (.inr rfl)).trans HBX.out
     have hbxr := (HVV.out.box HKj.out HW.out hbx1 (.inr rfl)).trans hbx1
     by_cases hlt : j < kids.length
     ·have hlt' : (j : Int) < (kids.length : Int) := by omega
      have c0 := cell_heap (i := 0) hbxr rfl
      have c5 := cell_heap (i := 5) hbxr rfl
      have c6 := cell_heap (i := 6) hbxr rfl
      have c10 := cell_heap (i := 10) hbxr rfl
      have hNTr : NIn wr Pt (.mk k m lo hi r kids) [.int .i64 k, .int .i64 m, .int .i64 lo, .int .i64 hi, .slice ar r.length cr, .slice ak kids.length ck] := HT.out.move (fun b hp => by
       rw [HVV.out.tree HKj.out hsw2 b hp, HVV.out.tree HK2.out HS1.out b hp]
       exact HB1.out.block b (Nat.lt_of_lt_of_le (HVV.out.low b hp) HW.out))
      obtain ⟨t, ht⟩ : ∃ t, kids[j]? = some t := ⟨_, List.getElem?_eq_getElem hlt⟩
      obtain ⟨ad, cs', rfl, hPad, hNt, hcell⟩ := hNTr.kid ht
      have HNt := Lib.hid hNt
      have HTt := Lib.hid ht
      cases hNt with
      | mk tk tm tlo thi tr tkids tar tak tcr tck tcsk _ _ _ _ _ _ _ _ _ =>
       have x0 := hcell 0 _ rfl
       rw [Nat.add_zero] at x0
       have x1 := cell_at hcell 1 (by decide) rfl
       have x2 := cell_at hcell 2 (by decide) rfl
       have x3 := cell_at hcell 3 (by decide) rfl
       have x4 := cell_at hcell 4 (by decide) rfl
       have x5 := cell_at hcell 5 (by decide) rfl
       have HP := Lib.hid hPad
       clear hcell hNTr ht hPad hbx1 hbxr
       rename_i q1 q2 q3 q4 q5 q6 q7 q8 q9
       clear q1 q2 q3 q4 q5 q6 q7 q8 q9
       have A0 : ∀ o, (wr.alloc o).cell? ⟨w.heap.size, 0, none⟩ = some (.int .i64 k) := fun o => Lib.cell?_alloc_some _ c0
       have A5 : ∀ o, (wr.alloc o).cell? ⟨w.heap.size, 5, none⟩ = some (.slice (some ad) kids.length ck) := fun o => Lib.cell?_alloc_some _ c5
       have A6 : ∀ o, (wr.alloc o).cell? ⟨w.heap.size, 6, none⟩ = some (.int .i64 d) := fun o => Lib.cell?_alloc_some _ c6
       have B0 : ∀ o o', ((wr.alloc o).alloc o').cell? ⟨w.heap.size, 0, none⟩ = some (.int .i64 k) := fun o o' => Lib.cell?_alloc_some _ (A0 o)
       have B10 : ∀ o o', ((wr.alloc o).alloc o').cell? ⟨w.heap.size, 10, none⟩ = some (.bool b) := fun o o' => Lib.cell?_alloc_some _ (Lib.cell?_alloc_some _ c10)
       clear c0 c5 c6 c10
       have hnext : S.kidsFrom j ++ [.leave S] = (S.kid j (.mk tk tm tlo thi tr tkids)).evs ++ (S.kidsFrom (j + 1) ++ [.leave S]) := by rw [Step.kidsFrom_next S j _ (by rw [HS.out]; exact HTt.out), List.append_assoc]
       have hrun := HRj.out
       have hok := HOj.out
       rw [hnext] at hrun hok
       obtain ⟨hok1, hok2⟩ := runOk_append vis lv Ok OkL _ _ _ hok
       obtain ⟨hr1, hr2⟩ := run_append vis lv (S.kidsFrom (j + 1) ++ [.leave S]) (S.kid j (.mk tk tm tlo thi tr tkids)).evs stj
       obtain ⟨KE, hKE⟩ : ∃ KE, KE = (S.kid j (.mk tk tm tlo thi tr tkids)).evs := ⟨_, rfl⟩
       have IH : ∀ (W : World) (x y : Int) (p q g : Bool), d + 1 = x → k = y → decide (j = 0) = p → decide (j + 1 = kids.length) = q → branchOf k b = g → Below wr.heap.size wr W →
         Calls Tryz.prog 66 #[.agg #[.int .i64 tk, .int .i64 tm, .int .i64 tlo, .int .i64 thi, .slice tar tr.length tcr, .slice tak tkids.length tck, .int .i64 x, .int .i64 y, .bool p, .bool q, .bool g], .func (.func kv) #[] cv, .func (.func kl) #[] cl] W
          fun e w' => e = .returned (.bool (run vis lv KE stj).1) ∧ Inv (run vis lv KE stj).2 w' ∧ ((run vis lv KE stj).1 = true → K wr w') := by
        intro W x y p q g h1 h2 h3 h4 h5 hW
        subst h1 h2 h3 h4 h5
        have hn := NT.nodes_kid (List.mem_of_getElem? HTt.out)
        have h6 := HN.out
        have h7 := HD.out
        simp only [NT.nodes] at h6 h7 hn
        have hwr := HIH.out (S.kid j (.mk tk tm tlo thi tr tkids)) [.int .i64 tk, .int .i64 tm, .int .i64 tlo, .int .i64 thi, .slice tar tr.length tcr, .slice tak tkids.length tck] W stj
         (by simp only [Step.kid, NT.nodes]; omega) (Nat.le_trans hswr hW.size) (HNt.out.move (fun b hp => hW.block b (Nat.lt_of_lt_of_le (HVV.out.low b hp) hswr))) (HVV.out.inv HIj.out hW) hok1
         (by rw [HS.out]; simp only [Step.kid]; omega) (by rw [HS.out]; simp only [Step.kid, NT.nodes]; omega)
        rw [show stepV [.int .i64 tk, .int .i64 tm, .int .i64 tlo, .int .i64 thi, .slice tar tr.length tcr, .slice tak tkids.length tck] (S.kid j (.mk tk tm tlo thi tr tkids)) = .agg #[.int .i64 tk, .int .i64 tm, .int .i64 tlo, .int .i64 thi, .slice tar tr.length tcr, .slice tak tkids.length tck, .int .i64 (d + 1), .int .i64 k, .bool (decide (j = 0)), .bool (decide (j + 1 = kids.length)), .bool (branchOf k b)] from by rw [HS.out]; rfl, ← hKE] at hwr
        exact hwr.mono fun e w' h => ⟨h.1, h.2.1, fun hr => HVV.out.trans (HVV.out.below hW hswr) (h.2.2 hr)⟩
       have hd : wrap64 (d + 1) = d + 1 := w64_lit _ (by have := HD.out; omega) (by have := HD.out; omega)
       have HIH2 := Lib.hid IH
       rw [← hKE] at hrun hok2 hr1 hr2
       have H1 := Lib.hid hr1
       have H2 := Lib.hid hr2
       have H3 := Lib.hid hrun
       have H4 := Lib.hid hok2
       clear hr1 hr2 hrun hok2 IH hok hok1 hnext hKE
       have hk4 : k = 7 ∨ k = 6 ∨ k = 5 ∨ (((k == 7) = false ∧ (k == 6) = false ∧ (k == 5) = false) ∧ branchOf k b = false) := by
        by_cases h7 : k = 7
        ·exact .inl h7
        ·by_cases h6 : k = 6
         ·exact .inr (.inl h6)
         ·by_cases h5 : k = 5
          ·exact .inr (.inr (.inl h5))
          ·exact .inr (.inr (.inr ⟨⟨beq_eq_false_iff_ne.2 h7, beq_eq_false_iff_ne.2 h6, beq_eq_false_iff_ne.2 h5⟩, by simp [branchOf, h7, h6, h5]⟩))
       rcases hk4 with rfl | rfl | rfl | ⟨⟨h7, h6, h5⟩, hbr⟩
       all_goals
        go_wp2_with fail
        refine (HIH2.out _ _ _ _ _ _ ?x1 ?x2 ?x3 ?x4 ?x5 ?x6).mono ?_
        case x1 => first | rfl | exact hd.symm
        case x2 => first | rfl | omega
        case x3 => by_cases h : j = 0 <;> simp [h]
        case x4 =>
         have hw : wrap64 ((kids.length : Int) - 1) = (kids.length : Int) - 1 := w64_lit _ (by omega) (by have := HK.out; omega)
         first
          | (rw [hw, Bool.eq_iff_iff, decide_eq_true_eq, beq_iff_eq]; omega)
          | (rw [Bool.eq_iff_iff, decide_eq_true_eq, beq_iff_eq]; omega)
        case x5 => first | rfl | exact hbr | simp [branchOf, *]
        case x6 => exact ((Below.refl _ wr).alloc (Nat.le_refl _) _).alloc (by simp) _
        rintro e w4 ⟨rfl, hI4, hK4⟩
        have HI4 := Lib.hid hI4
        have HK4 := Lib.hid hK4
        clear hI4 hK4
        cases hr : (run vis lv KE stj).1
        ·have HR := Lib.hid hr
         clear hr
         go_wp2
         go_ret
         have e1 := H3.out.trans (H2.out HR.out)
         rw [e1]
         exact ⟨by rw [HR.out]; rfl, HI4.out, fun h => by rw [HR.out] at h; simp at h⟩
        ·have HR := Lib.hid hr
         clear hr
         go_wp2
         go_roundg (kids.length - (j + 1))
         case measure => omega
         case rel => exact ⟨j + 1, _, congrArg (Value.int .i64) (by rw [w64_lit _ (by omega) (by have := HK.out; omega)]; push_cast; rfl), by omega, Nat.le_refl _, ⟨HI4.out⟩, ⟨HVV.out.trans HKj.out (HK4.out HR.out)⟩, ⟨H3.out.trans (H1.out HR.out)⟩, ⟨H4.out HR.out⟩⟩
     ·obtain rfl : j = kids.length := by omega
      have hlt' : ¬ (kids.length : Int) < (kids.length : Int) := by omega
      have hrun := HRj.out
      rw [Step.kidsFrom_end S kids.length (by rw [HS.out]; exact Nat.le_refl _)] at hrun
      have c : ∀ i v, (#[Value.int .i64 k, .int .i64 m, .int .i64 lo, .int .i64 hi, .slice ar r.length cr, .slice ak kids.length ck, .int .i64 d, .int .i64 a, .bool f, .bool l, .bool b] : Array Value)[i]? = some v → wr.cell? ⟨w.heap.size, i, none⟩ = some v := fun i v h => cell_heap hbxr h
      have c0 := c 0 _ rfl
      have c1 := c 1 _ rfl
      have c2 := c 2 _ rfl
      have c3 := c 3 _ rfl
      have c4 := c 4 _ rfl
      have c5 := c 5 _ rfl
      have c6 := c 6 _ rfl
      have c7 := c 7 _ rfl
      have c8 := c 8 _ rfl
      have c9 := c 9 _ rfl
      have c10 := c 10 _ rfl
      have hNTr : NIn wr Pt (.mk k m lo hi r kids) [.int .i64 k, .int .i64 m, .int .i64 lo, .int .i64 hi, .slice ar r.length cr, .slice ak kids.length ck] := HT.out.move (fun b hp => by
       rw [HVV.out.tree HKj.out hsw2 b hp, HVV.out.tree HK2.out HS1.out b hp]
       exact HB1.out.block b (Nat.lt_of_lt_of_le (HVV.out.low b hp) HW.out))
      have hokl := HOj.out
      rw [Step.kidsFrom_end S kids.length (by rw [HS.out]; exact Nat.le_refl _)] at hokl
      have hl := HVV.out.hl stj ⟨.mk k m lo hi r kids, d, a, f, l, b⟩ _ wr hswr hNTr HIj.out (by rw [← HS.out]; exact hokl.1)
      rw [show stepV [.int .i64 k, .int .i64 m, .int .i64 lo, .int .i64 hi, .slice ar r.length cr, .slice ak kids.length ck] ⟨.mk k m lo hi r kids, d, a, f, l, b⟩ = .agg #[.int .i64 k, .int .i64 m, .int .i64 lo, .int .i64 hi, .slice ar r.length cr, .slice ak kids.length ck, .int .i64 d, .int .i64 a, .bool f, .bool l, .bool b] from rfl, ← HS.out] at hl
      have HL := Lib.hid hl
      have HR2 := Lib.hid hrun
      have hel := HE.out
      clear c hl hrun hbx1 hbxr hNTr hokl
      go_wp2_with fail
      refine HL.out.mono ?_
      rintro e w3 ⟨rfl, hI3, hK3⟩
      go_wp2
      go_ret
      rw [HR2.out]
      exact ⟨rfl, hI3, fun _ => HVV.out.trans (HVV.out.below HB1.out HW.out) (HVV.out.trans HK2.out (HVV.out.trans HKj.out hK3))⟩
end Go.Proofs.YtamhkdlcoghdbaaGreatDoor.PCls
/- Out of TRange (wip/tools/prune2.py): the declarations alone that the texts of the trees name. -/
namespace Go.Proofs.YtamhkdlcoghdbaaGreatDoor.PCls
open Go.RowKit Go.Shelf
set_option linter.unusedVariables false
/-- whatever was there is kept, but for the blocks from lo up to hi, and, beyond hi, rows of elements of type 64 (a round may write what it was handed) -/
structure KeptBut (lo hi : Nat) (W W' : World) : Prop where
 os : W'.os = W.os
 tape : W'.tape = W.tape
 output : W'.output = W.output
 size : W.heap.size ≤ W'.heap.size
 block : ∀ k, k < W.heap.size → (k < lo ∨ (hi ≤ k ∧ ∀ cells fr, W.heap[k]? ≠ some (.cells cells 39 fr))) → W'.heap[k]? = W.heap[k]?
theorem KeptBut.refl (lo hi : Nat) (W : World) : KeptBut lo hi W W := ⟨rfl, rfl, rfl, Nat.le_refl _, fun _ _ _ => rfl⟩
theorem KeptBut.trans {lo hi : Nat} {A B C : World} (h : KeptBut lo hi A B) (k : KeptBut lo hi B C) : KeptBut lo hi A C :=
 ⟨k.os.trans h.os, k.tape.trans h.tape, k.output.trans h.output, Nat.le_trans h.size k.size, fun i hi' hb => (k.block i (Nat.lt_of_lt_of_le hi' h.size) (hb.imp_right fun x => ⟨x.1, fun cells fr => by rw [h.block i hi' hb]; exact x.2 cells fr⟩)).trans (h.block i hi' hb)⟩
theorem KeptBut.of_below {lo hi : Nat} {W W' : World} (h : Below W.heap.size W W') : KeptBut lo hi W W' := ⟨h.os, h.tape, h.output, h.size, fun k hk _ => h.block k hk⟩
theorem KeptBut.setCell {lo hi : Nat} {W W' : World} (h : KeptBut lo hi W W') {p : Addr} (h1 : lo ≤ p.block) (h2 : p.block < hi) (u : Value) : KeptBut lo hi W (W'.setCell p u) :=
 h.trans ⟨rfl, rfl, rfl, by simp [World.setCell], fun k _ hb => Below.heap_setCell _ _ _ _ (by omega)⟩
theorem KeptBut.drew {lo hi : Nat} {W W' : World} (h : KeptBut lo hi W W') : KeptBut lo hi W W'.drew := ⟨h.os, h.tape, h.output, h.size, h.block⟩
theorem KeptBut.below {lo hi : Nat} {W W' : World} (h : KeptBut lo hi W W') (hl : lo ≤ W.heap.size) : Below lo W W' := ⟨h.os, h.tape, h.output, h.size, fun k hk => h.block k (by omega) (.inl hk)⟩
theorem KeptBut.wide {lo hi lo' hi' : Nat} {W W' : World} (h : KeptBut lo hi W W') (h1 : lo' ≤ lo) (h2 : hi ≤ hi') : KeptBut lo' hi' W W' :=
 ⟨h.os, h.tape, h.output, h.size, fun k hk hb => h.block k hk (by rcases hb with hb | hb; exact .inl (by omega); exact .inr ⟨by omega, hb.2⟩)⟩
theorem keptBut_putObj {lo hi : Nat} (W : World) {l : Nat} (o : Obj) (h1 : lo ≤ l) (h2 : l < hi) : KeptBut lo hi W (W.putObj l o) :=
 ⟨rfl, rfl, rfl, by simp, fun k _ hb => World.putObj_heap_other (by omega)⟩
theorem below_putObj {n l : Nat} (W : World) (o : Obj) (h : n ≤ l) : Below n W (W.putObj l o) :=
 ⟨rfl, rfl, rfl, by simp, fun k hk => World.putObj_heap_other (by omega)⟩
/-- an iterator, called in W1: the elements xs come, one by one, with values that E tells; or a first part of them, a round having said that no more is wanted -/
def SeqIn {α : Type} (P : Program) (gf : Nat) (lb : Array Value) (go : List α → α → Bool) (xs : List α) (E : α → World → Array Value → Prop) (lo : Nat) (W1 : World) : Prop :=
 ∀ (l : Nat) (J Jx : List α → World → Prop), (∀ s A B, J s A → Below W1.heap.size A B → J s B) → (∀ s A B, Jx s A → Below W1.heap.size A B → Jx s B) →
  (∀ (m : Nat) (pre : List α) (x : α) (vs : Array Value) (A : World), pre ++ [x] <+: xs → J pre A → E x A vs → YieldAt Fence.wide m P l vs A fun e B =>
   e = .returned (.bool (go pre x)) ∧ (go pre x = true → J (pre ++ [x]) B ∧ KeptBut lo W1.heap.size A B) ∧ (go pre x = false → Jx (pre ++ [x]) B ∧ A.heap.size ≤ B.heap.size)) →
  J [] W1 → Calls P gf (#[.func (.yield l) #[] #[]] ++ lb) W1 fun e W' => (∃ v, e = .returned v) ∧ (J xs W' ∨ ∃ pre, pre <+: xs ∧ Jx pre W')
/-- how a round may be left -/
def roundEnd {α : Type} (g : Bool) (lo hi : Nat) (I : List α → World → Prop) (Ix : Code → List α → World → Prop) (xs : List α) (W : World) : Exit → Act → World → Prop
 | .normal, _, W' => g = true ∧ KeptBut lo hi W W' ∧ I xs W'
 | .ret, _, W' => g = false ∧ KeptBut lo hi W W' ∧ Ix .ret xs W'
 | .exit id, _, W' => g = false ∧ KeptBut lo hi W W' ∧ Ix (.exit id) xs W'
 | .goto t, _, W' => g = false ∧ KeptBut lo hi W W' ∧ Ix (.goto t) xs W'
 | .panic _, _, _ => False
 | .outgrown, _, _ => False
theorem YieldAt.anyDepth_ {m : Nat} (m' : Nat) {P : Program} {l : Nat} {args : Array Value} {W : World} {R : Ending → World → Prop} (h : YieldAt Fence.wide m P l args W R) : YieldAt Fence.wide m' P l args W R := by
 obtain ⟨fn, tmps, assign, body, hy, hR⟩ := h
 exact ⟨fn, tmps, assign, body, hy, hR.1, fun c cs _ => hR.2 c cs (room_wide _)⟩
theorem range_law {α : Type} {P : Program} {n : Nat} {g : Operand} {ps : Array Tmp} {assign body : Code} {Q : Exit → Act → World → Prop} {a : Act} {w : World}
  {gf : Nat} {lb : Array Value} (hg : a.eval g = .func (.func gf) #[] lb) (eg : ∀ args w, (callFunc gf args).run P w = .ok (.enter gf args) w)
  (go : List α → α → Bool) (lo : Nat) (hlo : lo ≤ w.heap.size) (xs : List α) (E : α → World → Array Value → Prop) (hEs : ∀ x W vs, E x W vs → vs.size = ps.size)
  (Q1 : α → Array Value → Act → World → Prop) (hQ1 : ∀ x vs a' W W', Q1 x vs a' W → (∀ k, k ≠ w.heap.size + 1 → W'.heap[k]? = W.heap[k]?) → Q1 x vs a' W')
  (I : List α → World → Prop) (Ix : Code → List α → World → Prop) (hI : ∀ s A B, I s A → Below w.heap.size A B → I s B) (hIx : ∀ c s A B, Ix c s A → Below w.heap.size A B → Ix c s B) (h0 : I [] w)
  (hseq : ∀ W1, Below w.heap.size w W1 → W1.heap.size = w.heap.size + 2 → SeqIn P gf lb go xs E lo W1)
  (hassign : ∀ (l : Nat) (pre : List α) (x : α) (vs : Array Value) (W : World) (K : Act → World → Prop), pre ++ [x] <+: xs → I pre W → E x W vs → w.heap.size + 2 ≤ W.heap.size →
   (∀ a' W', KeptBut lo w.heap.size W W' → I pre W' → Q1 x vs a' W' → K a' W') →
   assign.wpIn (Fence.wide.inRound l) (n - 1 - 1) P (Exit.then K (fun _ _ _ => False)) { tmps := (ps.zip vs).foldl (fun t (p, v) => t.setIfInBounds p v) a.tmps, defers := [] } W)
  (hbody : ∀ (l : Nat) (pre : List α) (x : α) (vs : Array Value) (a' : Act) (W : World), pre ++ [x] <+: xs → I pre W → Q1 x vs a' W → w.heap.size + 2 ≤ W.heap.size → body.wpIn (Fence.wide.inRound l) (n - 1 - 1) P (roundEnd (go pre x) lo w.heap.size I Ix (pre ++ [x]) W) a' W)
  (hdone : ∀ (W : World), I xs W → w.heap.size + 2 ≤ W.heap.size → W.heap[w.heap.size]? = some (.deferred (some [])) → Q .normal { a with defers := { target := .collected w.heap.size, args := #[] } :: a.defers } W)
  (hstop : ∀ (c : Code) (pre : List α) (W : World), pre <+: xs → Ix c pre W → w.heap.size + 2 ≤ W.heap.size → W.heap[w.heap.size]? = some (.deferred (some [])) → c.wpIn Fence.wide n P Q { a with defers := { target := .collected w.heap.size, args := #[] } :: a.defers } W) :
  (Code.rangeFunc g ps assign body).wpIn Fence.wide n P Q a w := by
 refine wpIn_rangeFunc ?_
 intro fn hfn
 obtain ⟨mkL, hmkL⟩ : ∃ mkL : LoopState → Option Code → Loop, mkL = fun st pe => { state := st, pending := pe, fn, tmps := a.tmps, params := ps, assign, body, defers := w.heap.size } := ⟨_, rfl⟩
 obtain ⟨W1, hW1⟩ : ∃ W1, (w.alloc (.deferred (some []))).alloc (.loop (mkL .ready none)) = W1 := ⟨_, rfl⟩
 have hsz1 : W1.heap.size = w.heap.size + 2 := by rw [← hW1]; simp
 have hrec1 : W1.heap[w.heap.size + 1]? = some (.loop (mkL .ready none)) := by
  rw [← hW1]
  have := World.alloc_heap_new (w.alloc (.deferred (some []))) (.loop (mkL .ready none))
  rwa [World.size_alloc] at this
 have hdef1 : W1.heap[w.heap.size]? = some (.deferred (some [])) := by
  rw [← hW1]
  exact (Below.heap_alloc _ _ _ (by simp)).trans (World.alloc_heap_new w _)
 have hbel1 : Below w.heap.size w W1 := by
  rw [← hW1]
  exact ((Below.refl _ w).alloc (Nat.le_refl _) _).alloc (by simp) _
 refine ⟨w.heap.size + 1, [{ target := .collected w.heap.size, args := #[] }], W1, { target := .fn (.func gf) lb, args := #[.func (.yield (w.heap.size + 1)) #[] #[]] }, W1, gf,
  #[.func (.yield (w.heap.size + 1)) #[] #[]] ++ lb, W1, ?_, ?_, fun _ _ => trivial, ?_, (fun h => by cases h), callsIn_wide.2 ?_⟩
 ·rw [← hW1, hmkL]; exact run_enterLoop_outer _ _ _ _ _
 ·simp only [resolve, hg]
  simp [go_sem]
 ·simp [invoke, go_sem, eg]
 refine (hseq W1 hbel1 hsz1 (w.heap.size + 1)
  (fun pre W => I pre W ∧ W.heap[w.heap.size + 1]? = some (.loop (mkL .ready none)) ∧ W.heap[w.heap.size]? = some (.deferred (some [])) ∧ W1.heap.size ≤ W.heap.size)
  (fun pre W => ∃ c, Ix c pre W ∧ W.heap[w.heap.size + 1]? = some (.loop (mkL .done (some c))) ∧ W.heap[w.heap.size]? = some (.deferred (some [])) ∧ W1.heap.size ≤ W.heap.size)
  (fun s A B h hb => ⟨hI s A B h.1 (hb.mono (by omega)), (hb.block _ (by omega)).trans h.2.1, (hb.block _ (by omega)).trans h.2.2.1, Nat.le_trans h.2.2.2 hb.size⟩)
  (fun s A B h hb => by
   obtain ⟨c, h1, h2, h3, h4⟩ := h
   exact ⟨c, hIx c s A B h1 (hb.mono (by omega)), (hb.block _ (by omega)).trans h2, (hb.block _ (by omega)).trans h3, Nat.le_trans h4 hb.size⟩)
  ?_ ⟨hI _ _ _ h0 hbel1, hrec1, hdef1, Nat.le_refl _⟩).mono ?_
 ·rintro m pre x vs W hpre ⟨hi, hl, hk, hs⟩ hEx
  refine YieldAt.anyDepth_ (m := n - 1 - 1) m ?_
  have hy := run_yield (P := P) (args := vs) hl (by rw [hmkL]; exact hEs x W vs hEx)
  rw [hmkL] at hy
  refine ⟨fn, _, assign, body, hy, roundIn_of_wpIn hfn (hassign _ pre x vs W _ hpre hi hEx (by omega) (fun a' W0 hk0 hi0 hq0 => ?_))⟩
  have hs0 := hk0.size
  have hl0 : W0.heap[w.heap.size + 1]? = some (.loop (mkL .ready none)) := (hk0.block _ (by omega) (.inr ⟨by omega, fun cells fr => by rw [hl]; simp⟩)).trans hl
  have hd0 : W0.heap[w.heap.size]? = some (.deferred (some [])) := (hk0.block _ (by omega) (.inr ⟨by omega, fun cells fr => by rw [hk]; simp⟩)).trans hk
  have hlt : w.heap.size + 1 < W0.heap.size := by omega
  refine ⟨_, run_beginRound hl0 (by rw [hmkL]), ?_⟩
  obtain ⟨bz, hbz⟩ : ∃ bz : Loop, bz = { mkL .ready none with state := .busy } := ⟨_, rfl⟩
  rw [← hbz]
  have hl2 : (W0.putObj (w.heap.size + 1) (.loop bz)).heap[w.heap.size + 1]? = some (.loop bz) := World.putObj_heap_same hlt
  have hk2 : (W0.putObj (w.heap.size + 1) (.loop bz)).heap[w.heap.size]? = some (.deferred (some [])) := (World.putObj_heap_other (by omega)).trans hd0
  refine wpIn_mono (hbody _ pre x vs a' _ hpre (hI _ _ _ hi0 (below_putObj W0 _ (by omega))) (hQ1 x vs a' _ _ hq0 (fun k hk => World.putObj_heap_other (by omega))) (by simp; omega)) ?_
  have fin : ∀ (jump : Option Code) (W3 : World), KeptBut lo w.heap.size (W0.putObj (w.heap.size + 1) (.loop bz)) W3 →
    (Instr.endRound (w.heap.size + 1) jump).run P W3 = .ok (.bool jump.isNone) (W3.putObj (w.heap.size + 1) (.loop (mkL (if jump.isNone then .ready else .done) jump))) ∧
    (W3.putObj (w.heap.size + 1) (.loop (mkL (if jump.isNone then .ready else .done) jump))).heap[w.heap.size + 1]? = some (.loop (mkL (if jump.isNone then .ready else .done) jump)) ∧
    (W3.putObj (w.heap.size + 1) (.loop (mkL (if jump.isNone then .ready else .done) jump))).heap[w.heap.size]? = some (.deferred (some [])) ∧
    Below w.heap.size W3 (W3.putObj (w.heap.size + 1) (.loop (mkL (if jump.isNone then .ready else .done) jump))) ∧ W1.heap.size ≤ (W3.putObj (w.heap.size + 1) (.loop (mkL (if jump.isNone then .ready else .done) jump))).heap.size ∧
    KeptBut lo W1.heap.size W (W3.putObj (w.heap.size + 1) (.loop (mkL (if jump.isNone then .ready else .done) jump))) := fun jump W3 hk3 => by
   have hsz : (W0.putObj (w.heap.size + 1) (.loop bz)).heap.size = W0.heap.size := by simp
   have hl3 : W3.heap[w.heap.size + 1]? = some (.loop bz) := (hk3.block _ (by omega) (.inr ⟨by omega, fun cells fr => by rw [hl2]; simp⟩)).trans hl2
   have hd3 : W3.heap[w.heap.size]? = some (.deferred (some [])) := (hk3.block _ (by omega) (.inr ⟨by omega, fun cells fr => by rw [hk2]; simp⟩)).trans hk2
   have hsz3 := hk3.size
   have hr := run_endRound (P := P) jump hl3
   have e1 : ({ bz with state := if jump.isNone then .ready else .done, pending := jump } : Loop) = mkL (if jump.isNone then .ready else .done) jump := by rw [hbz, hmkL]
   rw [e1] at hr
   exact ⟨hr, World.putObj_heap_same (by omega), (World.putObj_heap_other (by omega)).trans hd3, below_putObj _ _ (by omega), by simp; omega,
    (hk0.wide (Nat.le_refl _) (by omega)).trans ((keptBut_putObj W0 _ (by omega) (by omega)).trans ((hk3.wide (Nat.le_refl _) (by omega)).trans (keptBut_putObj W3 _ (by omega) (by omega))))⟩
  rintro e a3 W3 hp
  cases e with
  | normal =>
   obtain ⟨hg3, hk3, hi3⟩ := hp
   obtain ⟨hr, hl4, hd4, hb4, hs4, hk4⟩ := fin none W3 hk3
   exact ⟨_, _, hr, by rw [hg3]; rfl, fun _ => ⟨⟨hI _ _ _ hi3 hb4, hl4, hd4, hs4⟩, hk4⟩, fun h => by rw [hg3] at h; simp at h⟩
  | ret =>
   obtain ⟨hg3, hk3, hi3⟩ := hp
   obtain ⟨hr, hl4, hd4, hb4, hs4, hk4⟩ := fin (some .ret) W3 hk3
   exact ⟨_, _, hr, by rw [hg3]; rfl, fun h => by rw [hg3] at h; simp at h, fun _ => ⟨⟨.ret, hIx _ _ _ _ hi3 hb4, hl4, hd4, hs4⟩, hk4.size⟩⟩
  | exit id =>
   obtain ⟨hg3, hk3, hi3⟩ := hp
   obtain ⟨hr, hl4, hd4, hb4, hs4, hk4⟩ := fin (some (.exit id)) W3 hk3
   exact ⟨_, _, hr, by rw [hg3]; rfl, fun h => by rw [hg3] at h; simp at h, fun _ => ⟨⟨.exit id, hIx _ _ _ _ hi3 hb4, hl4, hd4, hs4⟩, hk4.size⟩⟩
  | goto t =>
   obtain ⟨hg3, hk3, hi3⟩ := hp
   obtain ⟨hr, hl4, hd4, hb4, hs4, hk4⟩ := fin (some (.goto t)) W3 hk3
   exact ⟨_, _, hr, by rw [hg3]; rfl, fun h => by rw [hg3] at h; simp at h, fun _ => ⟨⟨.goto t, hIx _ _ _ _ hi3 hb4, hl4, hd4, hs4⟩, hk4.size⟩⟩
  | panic ch => exact hp.elim
  | outgrown => exact hp.elim
 ·rintro e W2 ⟨⟨v, rfl⟩, (⟨hi, hl, hk, hs⟩ | ⟨pre, hpre, c, hi, hl, hk, hs⟩)⟩
  ·exact ⟨none, _, by have := run_endLoop (P := P) hl (by rw [hmkL]; simp); rw [hmkL] at this; exact this,
    hdone _ (hI _ _ _ hi (below_putObj _ _ (by omega))) (by simp; omega) ((World.putObj_heap_other (by omega)).trans hk)⟩
  ·exact ⟨some c, _, by have := run_endLoop (P := P) hl (by rw [hmkL]; simp); rw [hmkL] at this; exact this,
    hstop c pre _ hpre (hIx _ _ _ _ hi (below_putObj _ _ (by omega))) (by simp; omega) ((World.putObj_heap_other (by omega)).trans hk)⟩
end Go.Proofs.YtamhkdlcoghdbaaGreatDoor.PCls
/- Out of TCount (wip/tools/prune2.py): the declarations alone that the texts of the trees name. -/
namespace Go.Proofs.YtamhkdlcoghdbaaGreatDoor.PCls
open Go.RowKit Go.Proofs.YtamhkdlcoghdbaaGreatDoorW.PrintWords Go.Proofs.YtamhkdlcoghdbaaGreatDoorW.PrintLast Go.Proofs.YtamhkdlcoghdbaaGreatDoorW.PrintMore
set_option linter.unusedVariables false
set_option linter.unusedSimpArgs false
/-- what a visit may change: nothing of the tree, no box of a walk, and nothing that lay when all began -/
structure KeepsT (N0 : Nat) (A B : World) : Prop where
 os : B.os = A.os
 tape : B.tape = A.tape
 output : B.output = A.output
 size : A.heap.size ≤ B.heap.size
 low : ∀ (b : Nat), b < N0 → B.heap[b]? = A.heap[b]?
 box : ∀ (b : Nat) (cells : Array Value) (t : TypeId) (fr : Nat × Nat), A.heap[b]? = some (.cells cells t fr) → (t = 43 ∨ t = 121) → B.heap[b]? = A.heap[b]?
theorem KeepsT.trans {N0 : Nat} {A B C : World} (h : KeepsT N0 A B) (k : KeepsT N0 B C) : KeepsT N0 A C :=
 ⟨k.os.trans h.os, k.tape.trans h.tape, k.output.trans h.output, Nat.le_trans h.size k.size, fun b hb => (k.low b hb).trans (h.low b hb), fun b cells t fr hc ht => by
  have h1 := h.box b cells t fr hc ht
  exact (k.box b cells t fr (h1.trans hc) ht).trans h1⟩
theorem KeepsT.of_below {N0 : Nat} {A B : World} (h : Below A.heap.size A B) (hn : N0 ≤ A.heap.size) : KeepsT N0 A B :=
 ⟨h.os, h.tape, h.output, h.size, fun b hb => h.block b (by omega), fun b cells t fr hc _ => h.block b (Array.getElem?_eq_some_iff.1 hc).1⟩
theorem KeepsT.setCell {N0 : Nat} {A B : World} (h : KeepsT N0 A B) {p : Addr} {cells : Array Value} {t : TypeId} {fr : Nat × Nat} (hp : N0 ≤ p.block) (hb : B.heap[p.block]? = some (.cells cells t fr)) (ht : t ≠ 43 ∧ t ≠ 121) (u : Value) : KeepsT N0 A (B.setCell p u) :=
 h.trans ⟨rfl, rfl, rfl, by simp [World.setCell], fun b hb' => Below.heap_setCell _ _ _ _ (by omega), fun b cs t' fr' hc ht' => Below.heap_setCell _ _ _ _ (by
  rintro rfl
  rw [hb] at hc
  cases hc
  rcases ht' with h | h
  ·exact ht.1 h
  ·exact ht.2 h)⟩
theorem KeepsT.below {N0 : Nat} {A B : World} (h : KeepsT N0 A B) : Below N0 A B := ⟨h.os, h.tape, h.output, h.size, h.low⟩
theorem boxed_keep {A B : World} {b : Nat} {t : TypeId} {v : Value} (h : Boxed A b t v) (hb : Below A.heap.size A B) : Boxed B b t v := (hb.block b h.lt).trans h
set_option maxHeartbeats 1000000 in
theorem count_visit (k m lo hi d a : Int) (ar ak : Option Addr) (lr cr lk ck : Nat) (f l b : Bool) (N0 B : Nat) (n : Int) (hn : 0 ≤ n ∧ n ≤ 2000) (w : World) (hN : N0 ≤ B) (h : Boxed w B 3 (.int .i64 n)) :
  Calls Tryz.prog 109 #[.agg #[.int .i64 k, .int .i64 m, .int .i64 lo, .int .i64 hi, .slice ar lr cr, .slice ak lk ck, .int .i64 d, .int .i64 a, .bool f, .bool l, .bool b], .pointer (some ⟨B, 0, none⟩)] w
   fun e w' => e = .returned (.bool (decide (n + 1 ≤ 2000))) ∧ Boxed w' B 3 (.int .i64 (n + 1)) ∧ KeepsT N0 w w' := by
 have hw : wrap64 (n + 1) = n + 1 := w64_lit _ (by omega) (by omega)
 have c0 := h.cell
 have f0 := h.frozen
 have HB := Lib.hid h
 have hlt := h.lt
 clear h
 go_enter Tryz.func109, Tryz.ntmps109
 go_wp2
 go_ret
 have h2 : Boxed (w.setCell ⟨B, 0, none⟩ (.int .i64 (n + 1))) B 3 (.int .i64 (n + 1)) := HB.out.set _
 refine ⟨rfl, h2.alloc _, ?_⟩
 have hk : KeepsT N0 w (w.setCell ⟨B, 0, none⟩ (.int .i64 (n + 1))) := (KeepsT.of_below (Below.refl _ w) (by omega)).setCell (p := ⟨B, 0, none⟩) hN HB.out (by decide) _
 exact hk.trans (KeepsT.of_below ((Below.refl _ _).alloc (Nat.le_refl _) _) (by have := hk.size; omega))
theorem count_ok : ∀ (l : List Ev) (n : Int), 0 ≤ n → n ≤ 2000 → runOk visC lvN (fun n _ => 0 ≤ n ∧ n ≤ 2000) (fun _ _ => True) l n := by
 intro l
 induction l with
 | nil => intro n _ _; trivial
 | cons x l ih =>
  intro n h0 h1
  cases x with
  | enter t => exact ⟨⟨h0, h1⟩, fun h => ih (n + 1) (by omega) (by simpa [visC] using h)⟩
  | leave t => exact ⟨trivial, ih n h0 h1⟩
theorem count_visits (w0 : World) (N0 B : Nat) (hN : N0 ≤ B) : Visit visC lvN (fun n _ => 0 ≤ n ∧ n ≤ 2000) (fun _ _ => True) (fun n W => Boxed W B 3 (.int .i64 n) ∧ Below N0 w0 W ∧ N0 ≤ W.heap.size) (· < N0) (KeepsT N0) N0 109 110 #[.pointer (some ⟨B, 0, none⟩)] #[] where
 trans := KeepsT.trans
 below := fun h hn => KeepsT.of_below h hn
 size := fun h => h.size
 tree := fun h _ b hb => h.low b hb
 box := fun h _ hc ht => h.box _ _ _ _ hc ht
 inv := fun h hb => ⟨boxed_keep h.1 hb, h.2.1.trans (hb.mono h.2.2), Nat.le_trans h.2.2 hb.size⟩
 low := fun b hb => hb
 ev := fun args w => enters_ Tryz.func109 (by kernel_rfl) rfl args w
 el := fun args w => enters_ Tryz.func110 (by kernel_rfl) rfl args w
 hv := fun st s cs w hw hT hI hok => by
  obtain ⟨n, d, a, f, l, b⟩ := s
  cases hT with
  | mk k m lo hi r kids ar ak cr ck csk _ _ _ _ _ _ _ _ _ =>
   rw [show #[stepV [.int .i64 k, .int .i64 m, .int .i64 lo, .int .i64 hi, .slice ar r.length cr, .slice ak kids.length ck] ⟨.mk k m lo hi r kids, d, a, f, l, b⟩] ++ #[Value.pointer (some ⟨B, 0, none⟩)] = #[.agg #[.int .i64 k, .int .i64 m, .int .i64 lo, .int .i64 hi, .slice ar r.length cr, .slice ak kids.length ck, .int .i64 d, .int .i64 a, .bool f, .bool l, .bool b], .pointer (some ⟨B, 0, none⟩)] from rfl]
   exact (count_visit k m lo hi d a ar ak r.length cr kids.length ck f l b N0 B st hok w hN hI.1).mono fun e w' h => ⟨h.1, ⟨h.2.1, hI.2.1.trans h.2.2.below, Nat.le_trans hI.2.2 h.2.2.size⟩, fun _ => h.2.2⟩
 hl := fun st s cs w hw hT hI _ => by
  obtain ⟨n, d, a, f, l, b⟩ := s
  cases hT with
  | mk k m lo hi r kids ar ak cr ck csk _ _ _ _ _ _ _ _ _ =>
   rw [show #[stepV [.int .i64 k, .int .i64 m, .int .i64 lo, .int .i64 hi, .slice ar r.length cr, .slice ak kids.length ck] ⟨.mk k m lo hi r kids, d, a, f, l, b⟩] ++ (#[] : Array Value) = #[.agg #[.int .i64 k, .int .i64 m, .int .i64 lo, .int .i64 hi, .slice ar r.length cr, .slice ak kids.length ck, .int .i64 d, .int .i64 a, .bool f, .bool l, .bool b]] from rfl]
   exact (nothing_calls k m lo hi d a ar ak r.length cr kids.length ck f l b w).mono fun e w' h => ⟨h.1, ⟨boxed_keep hI.1 h.2, hI.2.1.trans (h.2.mono hw), Nat.le_trans hI.2.2 h.2.size⟩, KeepsT.of_below h.2 hw⟩
set_option maxHeartbeats 2000000 in
set_option maxRecDepth 100000 in
theorem count_calls (t : NT) (cs : List Value) (w : World) (hT : NIn w (· < w.heap.size) t cs) (hn : t.nodes < 4611686018427387903) :
  Calls Tryz.prog 54 #[.agg cs.toArray] w fun e w' => e = .returned (.int .i64 (countT t)) ∧ Below w.heap.size w w' := by
 have hT0 := hT
 obtain ⟨T, hTe⟩ : ∃ T, T = t := ⟨_, rfl⟩
 cases hT with
 | mk k m lo hi r kids ar ak cr ck csk _ _ _ _ _ _ _ _ _ =>
  rename_i q1 q2 q3 q4 q5 q6 q7 q8 q9
  clear q1 q2 q3 q4 q5 q6 q7 q8 q9
  have V := count_visits w w.heap.size (w.heap.size + 1) (by omega)
  have hw2 : ∀ w2 : World, Below (w.heap.size + 2) ((w.alloc (.cells #[.int .i64 k, .int .i64 m, .int .i64 lo, .int .i64 hi, .slice ar r.length cr, .slice ak kids.length ck] 43)).alloc (.cells #[.int .i64 0] 3)) w2 →
    Calls Tryz.prog 66 #[.agg #[.int .i64 k, .int .i64 m, .int .i64 lo, .int .i64 hi, .slice ar r.length cr, .slice ak kids.length ck, .int .i64 1, .int .i64 0, .bool true, .bool true, .bool true], .func (.func 109) #[] #[.pointer (some ⟨w.heap.size + 1, 0, none⟩)], .func (.func 110) #[] #[]] w2
     fun e w' => (∃ b, e = .returned (.bool b)) ∧ Boxed w' (w.heap.size + 1) 3 (.int .i64 (countT T)) ∧ Below w.heap.size w w' := by
   intro w2 hb
   have hb0 : Below w.heap.size w w2 := (((Below.refl _ w).alloc (Nat.le_refl _) _).alloc (by simp) _).trans (hb.mono (by omega))
   have hbx : Boxed w2 (w.heap.size + 1) 3 (.int .i64 0) := (hb.block _ (by omega)).trans (by
    have := World.alloc_heap_new (w.alloc (.cells #[.int .i64 k, .int .i64 m, .int .i64 lo, .int .i64 hi, .slice ar r.length cr, .slice ak kids.length ck] 43)) (.cells #[.int .i64 0] 3)
    rwa [World.size_alloc] at this)
   have hc := walk_calls V (NT.mk k m lo hi r kids).nodes (Step.top (.mk k m lo hi r kids)) _ w2 0 (Nat.le_refl _) hb0.size (hT0.move fun b h => hb0.block b h) ⟨hbx, hb0, hb0.size⟩ (count_ok _ 0 (by omega) (by omega)) (show (0 : Int) ≤ 1 by omega) (show (1 : Int) + _ < _ by simp only [Step.top]; omega)
   rw [show stepV [.int .i64 k, .int .i64 m, .int .i64 lo, .int .i64 hi, .slice ar r.length cr, .slice ak kids.length ck] (Step.top (.mk k m lo hi r kids)) = .agg #[.int .i64 k, .int .i64 m, .int .i64 lo, .int .i64 hi, .slice ar r.length cr, .slice ak kids.length ck, .int .i64 1, .int .i64 0, .bool true, .bool true, .bool true] from rfl] at hc
   refine hc.mono fun e w' h => ⟨⟨_, h.1⟩, ?_, ?_⟩
   ·rw [hTe]; rw [count_run] at h; exact h.2.1.1
   ·exact h.2.1.2.1
  have HW := Lib.hid hw2
  have hbc := fun w => from_calls k m lo hi ar ak r.length cr kids.length ck w
  have HF := Lib.hid hbc
  clear hw2 hbc hT0 V
  rw [← hTe]
  clear hTe
  go_enter Tryz.func54, Tryz.ntmps54
  go_wp2_with fail
  refine (HF.out _).mono ?_
  rintro e w2 ⟨rfl, hb2⟩
  have HB2 := Lib.hid hb2
  clear hb2
  go_wp2_with fail
  refine (HW.out _ (by have := HB2.out; simpa using this)).mono ?_
  rintro e w3 ⟨⟨b, rfl⟩, hbx, hbel⟩
  have c0 := hbx.cell
  have HB3 := Lib.hid hbel
  clear hbx hbel
  go_wp2
  go_ret
  exact ⟨rfl, HB3.out⟩
end Go.Proofs.YtamhkdlcoghdbaaGreatDoor.PCls
