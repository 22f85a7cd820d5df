/- Out of TRight1 (wip/tools/prune2.py): the declarations alone that the texts of the trees name. -/
import Derived.Test.YtamhkdlcoghdbaaGreatDoorKMQPu
namespace Go.Proofs.YtamhkdlcoghdbaaGreatDoor.PCls
open Go.RowKit Go.Proofs.YtamhkdlcoghdbaaGreatDoorW.PrintWords Go.Proofs.YtamhkdlcoghdbaaGreatDoorW.PrintLast Go.Proofs.YtamhkdlcoghdbaaGreatDoorW.PrintMore
set_option linter.unusedVariables false
set_option linter.unusedSimpArgs false
theorem formedB_eq (k m lo hi : Int) (r : List S64) (kids : List NT) (chars fold : Bool) :
  formedB k kids.length (decide (0 < r.length)) (m != 0) ((lo != 0) || (hi != 0)) (setOk r chars fold) (bounds lo hi) (decide (1 ≤ m) && decide (m ≤ 9)) = formed (.mk k m lo hi r kids) chars fold := by
 have h1 : (!decide (0 < r.length)) = decide (r.length = 0) := by rw [Bool.eq_iff_iff]; simp
 have h2 : (!(m != 0)) = decide (m = 0) := by rw [Bool.eq_iff_iff]; simp
 have h3 : (!((lo != 0) || (hi != 0))) = (decide (lo = 0) && decide (hi = 0)) := by rw [Bool.eq_iff_iff]; simp
 unfold formedB formed
 simp only [NT.k, NT.m, NT.lo, NT.hi, NT.r, NT.kids, h1, h2, h3]
 first | rfl | (simp only [Bool.and_assoc]; done) | (simp only [Bool.and_assoc]; rfl)
theorem formed_calls (chars fold : Bool) (k m lo hi : Int) (r : List S64) (kids : List NT) (ar ak : Option Addr) (cr ck : Nat) (w : World) (hr : Kd.C k64 w ar r.length r) (hcr : r.length ≤ cr) (hrl : r.length < 2097152) (hin : inR r = true) :
  Calls Tryz.prog 70 #[.agg #[.int .i64 k, .int .i64 m, .int .i64 lo, .int .i64 hi, .slice ar r.length cr, .slice ak kids.length ck], .agg #[.bool chars, .bool fold]] w fun e w' => e = .returned (.bool (formed (.mk k m lo hi r kids) chars fold)) ∧ Below w.heap.size w w' := by
 obtain ⟨k1, f1⟩ := (right_ends r chars hrl hin).get
 obtain ⟨k2, f3⟩ := (equal_ends (Cls.fold r) r (by have := fold_length r; omega)).get
 rw [← formedB_eq]
 exact formed_walk k m lo hi r ar ak cr kids.length ck chars fold w _ _ _ _ _ _ _ _ (Cls.fold r) k1 k2 rfl rfl rfl rfl rfl rfl f1 (by unfold classes_Fold.f; rw [if_pos (by omega), if_pos hin]) f3 hr hcr
/-- what lies in Right's boxes -/
structure RK (N0 : Nat) (chars fold : Bool) (wrong many groups : Int) (ended : List Int) (w W : World) : Prop where
 bw : Boxed W (N0 + 2) 54 (.int .i64 wrong)
 bm : Boxed W (N0 + 3) 3 (.int .i64 many)
 bg : Boxed W (N0 + 4) 3 (.int .i64 groups)
 be : ∃ v, Boxed W (N0 + 5) 116 v ∧ W.ownsRow (N0 + 6) 3 1 v ended.length (ended.map (Value.int .i64))
 bo : W.heap[N0 + 1]? = some (.cells #[.bool chars, .bool fold] 23 (0, 0))
 kp : KeepsT N0 w W
 sz : N0 + 6 ≤ W.heap.size
theorem RK.below {N0 : Nat} {chars fold : Bool} {wrong many groups : Int} {ended : List Int} {w A B : World} (h : RK N0 chars fold wrong many groups ended w A) (hb : Below A.heap.size A B) : RK N0 chars fold wrong many groups ended w B := by
 obtain ⟨v, hv, ho⟩ := h.be
 have hs := h.sz
 exact ⟨boxed_keep h.bw hb, boxed_keep h.bm hb, boxed_keep h.bg hb, ⟨v, boxed_keep hv hb, own_move ho (fun k hk => hb.block k (ho.lt k hk).2)⟩, (hb.block _ (by omega)).trans h.bo, h.kp.trans (KeepsT.of_below hb (by omega)), Nat.le_trans h.sz hb.size⟩
theorem RK.alloc {N0 : Nat} {chars fold : Bool} {wrong many groups : Int} {ended : List Int} {w A : World} (h : RK N0 chars fold wrong many groups ended w A) (o : Obj) : RK N0 chars fold wrong many groups ended w (A.alloc o) := h.below ((Below.refl _ A).alloc (Nat.le_refl _) o)
theorem RK.drewN {N0 : Nat} {chars fold : Bool} {wrong many groups : Int} {ended : List Int} {w A : World} (h : RK N0 chars fold wrong many groups ended w A) (n : Nat) : RK N0 chars fold wrong many groups ended w (A.drewN n) := h.below (wN (Below.refl _ A) n)
theorem boxed_other {A : World} {b c : Nat} {t : TypeId} {v u : Value} (h : Boxed A b t v) (hne : b ≠ c) : Boxed (A.setCell ⟨c, 0, none⟩ u) b t v := (Below.heap_setCell A ⟨c, 0, none⟩ u b hne).trans h
theorem own_other {A : World} {base c : Nat} {t : TypeId} {v u : Value} {xs : List Value} {n : Nat} (h : A.ownsRow base t 1 v n xs) (hc : c < base) : (A.setCell ⟨c, 0, none⟩ u).ownsRow base t 1 v n xs :=
 own_move h (fun k hk => Below.heap_setCell A ⟨c, 0, none⟩ u k (by have := (h.lt k hk).1; simp only; omega))
theorem RK.set_wrong {N0 : Nat} {chars fold : Bool} {wrong many groups x : Int} {ended : List Int} {w A : World} (h : RK N0 chars fold wrong many groups ended w A) : RK N0 chars fold x many groups ended w (A.setCell ⟨N0 + 2, 0, none⟩ (.int .i64 x)) := by
 obtain ⟨v, hv, ho⟩ := h.be
 exact ⟨h.bw.set _, boxed_other h.bm (by omega), boxed_other h.bg (by omega), ⟨v, boxed_other hv (by omega), own_other ho (by omega)⟩, (Below.heap_setCell _ _ _ _ (by simp only; omega)).trans h.bo, h.kp.setCell (p := ⟨N0 + 2, 0, none⟩) (by simp only; omega) h.bw (by decide) _, by have := h.sz; simpa [World.setCell] using this⟩
theorem RK.set_many {N0 : Nat} {chars fold : Bool} {wrong many groups x : Int} {ended : List Int} {w A : World} (h : RK N0 chars fold wrong many groups ended w A) : RK N0 chars fold wrong x groups ended w (A.setCell ⟨N0 + 3, 0, none⟩ (.int .i64 x)) := by
 obtain ⟨v, hv, ho⟩ := h.be
 exact ⟨boxed_other h.bw (by omega), h.bm.set _, boxed_other h.bg (by omega), ⟨v, boxed_other hv (by omega), own_other ho (by omega)⟩, (Below.heap_setCell _ _ _ _ (by simp only; omega)).trans h.bo, h.kp.setCell (p := ⟨N0 + 3, 0, none⟩) (by simp only; omega) h.bm (by decide) _, by have := h.sz; simpa [World.setCell] using this⟩
theorem RK.set_groups {N0 : Nat} {chars fold : Bool} {wrong many groups x : Int} {ended : List Int} {w A : World} (h : RK N0 chars fold wrong many groups ended w A) : RK N0 chars fold wrong many x ended w (A.setCell ⟨N0 + 4, 0, none⟩ (.int .i64 x)) := by
 obtain ⟨v, hv, ho⟩ := h.be
 exact ⟨boxed_other h.bw (by omega), boxed_other h.bm (by omega), h.bg.set _, ⟨v, boxed_other hv (by omega), own_other ho (by omega)⟩, (Below.heap_setCell _ _ _ _ (by simp only; omega)).trans h.bo, h.kp.setCell (p := ⟨N0 + 4, 0, none⟩) (by simp only; omega) h.bg (by decide) _, by have := h.sz; simpa [World.setCell] using this⟩
set_option maxHeartbeats 8000000 in
set_option maxRecDepth 100000 in
theorem right_visit (N0 : Nat) (chars fold : Bool) (k m lo hi d a : Int) (r : List S64) (kids : List NT) (ar ak : Option Addr) (cr ck : Nat) (f l b : Bool) (wrong many groups : Int) (ended : List Int) (w0 w : World)
  (hT : NIn w (· < N0) (.mk k m lo hi r kids) [.int .i64 k, .int .i64 m, .int .i64 lo, .int .i64 hi, .slice ar r.length cr, .slice ak kids.length ck]) (hI : RK N0 chars fold wrong many groups ended w0 w)
  (h0 : wrong = 0) (h1 : 0 ≤ many ∧ many ≤ 2000) (h2 : 0 ≤ groups ∧ groups ≤ 2000) (hel : ended.length < 1099511627776) :
  Calls Tryz.prog 68 #[.agg #[.int .i64 k, .int .i64 m, .int .i64 lo, .int .i64 hi, .slice ar r.length cr, .slice ak kids.length ck, .int .i64 d, .int .i64 a, .bool f, .bool l, .bool b], .pointer (some ⟨N0 + 3, 0, none⟩), .pointer (some ⟨N0 + 2, 0, none⟩), .pointer (some ⟨N0 + 1, 0, none⟩), .pointer (some ⟨N0 + 4, 0, none⟩), .pointer (some ⟨N0 + 5, 0, none⟩)] w
   fun e w' => e = .returned (.bool (visR chars fold ⟨wrong, many, groups, ended⟩ ⟨.mk k m lo hi r kids, d, a, f, l, b⟩).1) ∧
    RK N0 chars fold (visR chars fold ⟨wrong, many, groups, ended⟩ ⟨.mk k m lo hi r kids, d, a, f, l, b⟩).2.wrong (visR chars fold ⟨wrong, many, groups, ended⟩ ⟨.mk k m lo hi r kids, d, a, f, l, b⟩).2.many (visR chars fold ⟨wrong, many, groups, ended⟩ ⟨.mk k m lo hi r kids, d, a, f, l, b⟩).2.groups (visR chars fold ⟨wrong, many, groups, ended⟩ ⟨.mk k m lo hi r kids, d, a, f, l, b⟩).2.ended w0 w' := by
 obtain ⟨S, hS⟩ : ∃ S, S = (⟨.mk k m lo hi r kids, d, a, f, l, b⟩ : Step) := ⟨_, rfl⟩
 obtain ⟨V, hV⟩ : ∃ V, V = visR chars fold ⟨wrong, many, groups, ended⟩ S := ⟨_, rfl⟩
 rw [← hS, ← hV]
 subst h0
 have hm1 : wrap64 (many + 1) = many + 1 := w64_lit _ (by omega) (by omega)
 have hg1 : wrap64 (groups + 1) = groups + 1 := w64_lit _ (by omega) (by omega)
 have hst := fun w => stands_calls k m lo hi d a ar ak r.length cr kids.length ck f l b (stands S) (by rw [hS]; rfl) w
 have HSt := Lib.hid hst
 have HT := Lib.hid hT
 have HI := Lib.hid hI
 have HV := Lib.hid hV
 have HE := Lib.hid hel
 have HS := Lib.hid hS
 have HM := Lib.hid h1
 have HG := Lib.hid h2
 clear hst hT hI hV hel hS h1 h2
 by_cases g1 : 2000 ≤ many
 ·have e : V = (false, ⟨42, many + 1, groups, ended⟩) := by rw [HV.out]; unfold visR; rw [if_pos g1]
  rw [e]
  clear e
  have cw := HI.out.bw.cell
  have lw := HI.out.bw.lt
  have fw := HI.out.bw.frozen
  have cm := HI.out.bm.cell
  have lm := HI.out.bm.lt
  have fm := HI.out.bm.frozen
  go_enter Tryz.func68, Tryz.ntmps68
  go_wp2
  go_ret
  exact ⟨rfl, RK.alloc (RK.set_many (RK.set_wrong HI.out)) _⟩
 by_cases g2 : 40 < d
 ·have e : V = (false, ⟨43, many + 1, groups, ended⟩) := by rw [HV.out]; unfold visR; rw [if_neg g1, if_pos (by rw [HS.out]; exact g2)]
  rw [e]
  clear e
  have cw := HI.out.bw.cell
  have lw := HI.out.bw.lt
  have fw := HI.out.bw.frozen
  have cm := HI.out.bm.cell
  have lm := HI.out.bm.lt
  have fm := HI.out.bm.frozen
  go_enter Tryz.func68, Tryz.ntmps68
  go_wp2
  go_ret
  exact ⟨rfl, RK.alloc (RK.set_many (RK.set_wrong HI.out)) _⟩
 have HI1 := Lib.hid (RK.alloc HI.out (.cells #[.int .i64 k, .int .i64 m, .int .i64 lo, .int .i64 hi, .slice ar r.length cr, .slice ak kids.length ck, .int .i64 d, .int .i64 a, .bool f, .bool l, .bool b] 121))
 have hbx := Lib.hid (World.alloc_heap_new w (.cells #[.int .i64 k, .int .i64 m, .int .i64 lo, .int .i64 hi, .slice ar r.length cr, .slice ak kids.length ck, .int .i64 d, .int .i64 a, .bool f, .bool l, .bool b] 121))
 cases hs : stands S
 ·have e : V = (false, ⟨50, many + 1, groups, ended⟩) := by rw [HV.out]; unfold visR; rw [if_neg g1, if_neg (by rw [HS.out]; exact g2), if_pos (by rw [hs]; rfl)]
  rw [e]
  clear e
  have cm := HI.out.bm.cell
  have lm := HI.out.bm.lt
  have fm := HI.out.bm.frozen
  go_enter Tryz.func68, Tryz.ntmps68
  go_wp2_with fail
  refine (HSt.out _).mono ?_
  rintro e w2 ⟨rfl, hB⟩
  have HI2 := Lib.hid (HI1.out.below hB)
  have hbx2 := Lib.hid ((hB.block _ (by simp)).trans hbx.out)
  have HB2 := Lib.hid hB
  clear hB cm fm lm
  rw [hs]
  have cw := HI2.out.bw.cell
  have lw := HI2.out.bw.lt
  have fw := HI2.out.bw.frozen
  have cm := HI2.out.bm.cell
  have lm := HI2.out.bm.lt
  have fm := HI2.out.bm.frozen
  go_wp2
  go_ret
  exact ⟨rfl, RK.set_many (RK.set_wrong HI2.out)⟩
 ·have HF := Lib.hid (fun w hr => formed_calls chars fold k m lo hi r kids ar ak cr ck w hr (by cases HT.out; assumption) (by cases HT.out; assumption) (by cases HT.out; assumption))
  have HR2 := Lib.hid (fun w2 (hl : ∀ b, b < N0 → w2.heap[b]? = w0.heap[b]?) => (show Kd.C k64 w2 ar r.length r from by
    cases HT.out with
    | mk _ _ _ _ _ _ _ _ _ _ _ h1 h2 _ _ _ _ _ _ _ => exact C_move h1 h2 (fun b hb => (hl b hb).trans (HI.out.kp.low b hb).symm)))
  cases hf : formed (.mk k m lo hi r kids) chars fold
  ·have e : V = (false, ⟨50, many + 1, groups, ended⟩) := by rw [HV.out]; unfold visR; rw [if_neg g1, if_neg (by rw [HS.out]; exact g2), if_pos (by rw [hs, HS.out]; simp only; rw [hf]; rfl)]
   rw [e]
   clear e
   have cm := HI.out.bm.cell
   have lm := HI.out.bm.lt
   have fm := HI.out.bm.frozen
   go_enter Tryz.func68, Tryz.ntmps68
   go_wp2_with fail
   refine (HSt.out _).mono ?_
   rintro e w2 ⟨rfl, hB⟩
   have HI2 := Lib.hid (HI1.out.below hB)
   have hbx2 := Lib.hid ((hB.block _ (by simp)).trans hbx.out)
   have HB2 := Lib.hid hB
   clear hB cm fm lm
   rw [hs]
   have d0 := cell_heap (i := 0) hbx2.out rfl
   have d1 := cell_heap (i := 1) hbx2.out rfl
   have d2 := cell_heap (i := 2) hbx2.out rfl
   have d3 := cell_heap (i := 3) hbx2.out rfl
   have d4 := cell_heap (i := 4) hbx2.out rfl
   have d5 := cell_heap (i := 5) hbx2.out rfl
   have co0 := cell_heap (i := 0) HI2.out.bo rfl
   have co1 := cell_heap (i := 1) HI2.out.bo rfl
   go_wp2_with fail
   refine (HF.out w2 (by have h := HB2.out; exact HR2.out w2 (HI2.out.kp.low))).mono ?_
   rintro e w3 ⟨rfl, hB⟩
   have HI3 := Lib.hid (HI2.out.below hB)
   have hbx3 := Lib.hid ((hB.block _ (Array.getElem?_eq_some_iff.1 hbx2.out).1).trans hbx2.out)
   clear hB d0 d1 d2 d3 d4 d5 co0 co1
   rw [hf]
   have cw := HI3.out.bw.cell
   have lw := HI3.out.bw.lt
   have fw := HI3.out.bw.frozen
   have cm := HI3.out.bm.cell
   have lm := HI3.out.bm.lt
   have fm := HI3.out.bm.frozen
   go_wp2
   go_ret
   exact ⟨rfl, RK.set_many (RK.set_wrong HI3.out)⟩
  ·have eV : V = (if k = 7 then (if m ≠ groups + 1 then (false, ⟨50, many + 1, groups + 1, ended⟩) else if 30 < groups + 1 then (false, ⟨42, many + 1, groups + 1, ended⟩) else (decide ((0 : Int) = 0), ⟨0, many + 1, groups + 1, ended⟩)) else if k = 8 ∧ ended.contains m = false then (false, ⟨41, many + 1, groups, ended⟩) else (decide ((0 : Int) = 0), ⟨0, many + 1, groups, ended⟩)) := by
    rw [HV.out]; unfold visR; rw [if_neg g1, if_neg (by rw [HS.out]; exact g2), if_neg (by rw [hs, HS.out]; simp only; rw [hf]; simp), HS.out]; rfl
   have HX := Lib.hid eV
   clear eV
   by_cases g7 : k = 7
   ·subst g7
    by_cases gm : m = groups + 1
    ·subst gm
     by_cases gg : 30 < groups + 1
     ·
      have e : V = (false, ⟨42, many + 1, groups + 1, ended⟩) := by rw [HX.out]; rw [if_pos rfl, if_neg (by simp), if_pos gg]
      rw [e]
      clear e
      have cm := HI.out.bm.cell
      have lm := HI.out.bm.lt
      have fm := HI.out.bm.frozen
      go_enter Tryz.func68, Tryz.ntmps68
      go_wp2_with fail
      refine (HSt.out _).mono ?_
      rintro e w2 ⟨rfl, hB⟩
      have HI2 := Lib.hid (HI1.out.below hB)
      have hbx2 := Lib.hid ((hB.block _ (by simp)).trans hbx.out)
      have HB2 := Lib.hid hB
      clear hB cm fm lm
      rw [hs]
      have d0 := cell_heap (i := 0) hbx2.out rfl
      have d1 := cell_heap (i := 1) hbx2.out rfl
      have d2 := cell_heap (i := 2) hbx2.out rfl
      have d3 := cell_heap (i := 3) hbx2.out rfl
      have d4 := cell_heap (i := 4) hbx2.out rfl
      have d5 := cell_heap (i := 5) hbx2.out rfl
      have co0 := cell_heap (i := 0) HI2.out.bo rfl
      have co1 := cell_heap (i := 1) HI2.out.bo rfl
      go_wp2_with fail
      refine (HF.out w2 (by have h := HB2.out; exact HR2.out w2 (HI2.out.kp.low))).mono ?_
      rintro e w3 ⟨rfl, hB⟩
      have HI3 := Lib.hid (HI2.out.below hB)
      have hbx3 := Lib.hid ((hB.block _ (Array.getElem?_eq_some_iff.1 hbx2.out).1).trans hbx2.out)
      clear hB d0 d1 d2 d3 d4 d5 co0 co1
      rw [hf]
      have cw := HI3.out.bw.cell
      have lw := HI3.out.bw.lt
      have fw := HI3.out.bw.frozen
      have cm := HI3.out.bm.cell
      have lm := HI3.out.bm.lt
      have fm := HI3.out.bm.frozen
      have cg := HI3.out.bg.cell
      have lg := HI3.out.bg.lt
      have fg := HI3.out.bg.frozen
      have s0 := cell_heap (i := 0) hbx3.out rfl
      have s1 := cell_heap (i := 1) hbx3.out rfl
      go_wp2
      go_ret
      exact ⟨rfl, RK.set_many (RK.set_wrong (RK.set_groups HI3.out))⟩
     ·
      have e : V = (true, ⟨0, many + 1, groups + 1, ended⟩) := by rw [HX.out]; rw [if_pos rfl, if_neg (by simp), if_neg gg]; rfl
      rw [e]
      clear e
      have cm := HI.out.bm.cell
      have lm := HI.out.bm.lt
      have fm := HI.out.bm.frozen
      go_enter Tryz.func68, Tryz.ntmps68
      go_wp2_with fail
      refine (HSt.out _).mono ?_
      rintro e w2 ⟨rfl, hB⟩
      have HI2 := Lib.hid (HI1.out.below hB)
      have hbx2 := Lib.hid ((hB.block _ (by simp)).trans hbx.out)
      have HB2 := Lib.hid hB
      clear hB cm fm lm
      rw [hs]
      have d0 := cell_heap (i := 0) hbx2.out rfl
      have d1 := cell_heap (i := 1) hbx2.out rfl
      have d2 := cell_heap (i := 2) hbx2.out rfl
      have d3 := cell_heap (i := 3) hbx2.out rfl
      have d4 := cell_heap (i := 4) hbx2.out rfl
      have d5 := cell_heap (i := 5) hbx2.out rfl
      have co0 := cell_heap (i := 0) HI2.out.bo rfl
      have co1 := cell_heap (i := 1) HI2.out.bo rfl
      go_wp2_with fail
      refine (HF.out w2 (by have h := HB2.out; exact HR2.out w2 (HI2.out.kp.low))).mono ?_
      rintro e w3 ⟨rfl, hB⟩
      have HI3 := Lib.hid (HI2.out.below hB)
      have hbx3 := Lib.hid ((hB.block _ (Array.getElem?_eq_some_iff.1 hbx2.out).1).trans hbx2.out)
      clear hB d0 d1 d2 d3 d4 d5 co0 co1
      rw [hf]
      have cw := HI3.out.bw.cell
      have lw := HI3.out.bw.lt
      have fw := HI3.out.bw.frozen
      have cm := HI3.out.bm.cell
      have lm := HI3.out.bm.lt
      have fm := HI3.out.bm.frozen
      have cg := HI3.out.bg.cell
      have lg := HI3.out.bg.lt
      have fg := HI3.out.bg.frozen
      have s0 := cell_heap (i := 0) hbx3.out rfl
      have s1 := cell_heap (i := 1) hbx3.out rfl
      go_wp2
      go_ret
      exact ⟨rfl, RK.set_many (RK.set_groups HI3.out)⟩
    ·have gm2 : (m == groups + 1) = false := beq_eq_false_iff_ne.2 gm
     have e : V = (false, ⟨50, many + 1, groups + 1, ended⟩) := by rw [HX.out]; rw [if_pos rfl, if_pos gm]
     rw [e]
     clear e
     have cm := HI.out.bm.cell
     have lm := HI.out.bm.lt
     have fm := HI.out.bm.frozen
     go_enter Tryz.func68, Tryz.ntmps68
     go_wp2_with fail
     refine (HSt.out _).mono ?_
     rintro e w2 ⟨rfl, hB⟩
     have HI2 := Lib.hid (HI1.out.below hB)
     have hbx2 := Lib.hid ((hB.block _ (by simp)).trans hbx.out)
     have HB2 := Lib.hid hB
     clear hB cm fm lm
     rw [hs]
     have d0 := cell_heap (i := 0) hbx2.out rfl
     have d1 := cell_heap (i := 1) hbx2.out rfl
     have d2 := cell_heap (i := 2) hbx2.out rfl
     have d3 := cell_heap (i := 3) hbx2.out rfl
     have d4 := cell_heap (i := 4) hbx2.out rfl
     have d5 := cell_heap (i := 5) hbx2.out rfl
     have co0 := cell_heap (i := 0) HI2.out.bo rfl
     have co1 := cell_heap (i := 1) HI2.out.bo rfl
     go_wp2_with fail
     refine (HF.out w2 (by have h := HB2.out; exact HR2.out w2 (HI2.out.kp.low))).mono ?_
     rintro e w3 ⟨rfl, hB⟩
     have HI3 := Lib.hid (HI2.out.below hB)
     have hbx3 := Lib.hid ((hB.block _ (Array.getElem?_eq_some_iff.1 hbx2.out).1).trans hbx2.out)
     clear hB d0 d1 d2 d3 d4 d5 co0 co1
     rw [hf]
     have cw := HI3.out.bw.cell
     have lw := HI3.out.bw.lt
     have fw := HI3.out.bw.frozen
     have cm := HI3.out.bm.cell
     have lm := HI3.out.bm.lt
     have fm := HI3.out.bm.frozen
     have cg := HI3.out.bg.cell
     have lg := HI3.out.bg.lt
     have fg := HI3.out.bg.frozen
     have s0 := cell_heap (i := 0) hbx3.out rfl
     have s1 := cell_heap (i := 1) hbx3.out rfl
     go_wp2
     go_ret
     exact ⟨rfl, RK.set_many (RK.set_wrong (RK.set_groups HI3.out))⟩
   ·have g72 : (k == 7) = false := beq_eq_false_iff_ne.2 g7
    by_cases g8 : k = 8
    ·subst g8
     cases hcc : ended.contains m
     ·have e : V = (false, ⟨41, many + 1, groups, ended⟩) := by rw [HX.out, if_neg g7, if_pos ⟨rfl, hcc⟩]
      rw [e]
      clear e
      have cm := HI.out.bm.cell
      have lm := HI.out.bm.lt
      have fm := HI.out.bm.frozen
      go_enter Tryz.func68, Tryz.ntmps68
      go_wp2_with fail
      refine (HSt.out _).mono ?_
      rintro e w2 ⟨rfl, hB⟩
      have HI2 := Lib.hid (HI1.out.below hB)
      have hbx2 := Lib.hid ((hB.block _ (by simp)).trans hbx.out)
      have HB2 := Lib.hid hB
      clear hB cm fm lm
      rw [hs]
      have d0 := cell_heap (i := 0) hbx2.out rfl
      have d1 := cell_heap (i := 1) hbx2.out rfl
      have d2 := cell_heap (i := 2) hbx2.out rfl
      have d3 := cell_heap (i := 3) hbx2.out rfl
      have d4 := cell_heap (i := 4) hbx2.out rfl
      have d5 := cell_heap (i := 5) hbx2.out rfl
      have co0 := cell_heap (i := 0) HI2.out.bo rfl
      have co1 := cell_heap (i := 1) HI2.out.bo rfl
      go_wp2_with fail
      refine (HF.out w2 (by have h := HB2.out; exact HR2.out w2 (HI2.out.kp.low))).mono ?_
      rintro e w3 ⟨rfl, hB⟩
      have HI3 := Lib.hid (HI2.out.below hB)
      have hbx3 := Lib.hid ((hB.block _ (Array.getElem?_eq_some_iff.1 hbx2.out).1).trans hbx2.out)
      clear hB d0 d1 d2 d3 d4 d5 co0 co1
      rw [hf]
      have cw := HI3.out.bw.cell
      have lw := HI3.out.bw.lt
      have fw := HI3.out.bw.frozen
      have cm := HI3.out.bm.cell
      have lm := HI3.out.bm.lt
      have fm := HI3.out.bm.frozen
      have s0 := cell_heap (i := 0) hbx3.out rfl
      have s1 := cell_heap (i := 1) hbx3.out rfl
      obtain ⟨v, hv, ho⟩ := HI3.out.be
      have hc := contains_own ho (by have := HE.out; omega) m
      rw [hcc] at hc
      have HC := Lib.hid hc
      have ce := hv.cell
      obtain ⟨va, vn, vc, rfl⟩ : ∃ va vn vc, v = .slice va vn vc := by rcases ho.2 with ⟨h, _⟩ | ⟨g, cap, cur, h, _⟩ <;> exact ⟨_, _, _, h⟩
      clear hv ho hc
      go_wp2_with fail
      refine HC.out.mono ?_
      rintro e w4 ⟨rfl, rfl⟩
      go_wp2
      go_ret
      exact ⟨rfl, RK.set_many (RK.set_wrong HI3.out)⟩
     ·have e : V = (true, ⟨0, many + 1, groups, ended⟩) := by rw [HX.out, if_neg g7, if_neg (by rw [hcc]; simp)]; rfl
      rw [e]
      clear e
      have cm := HI.out.bm.cell
      have lm := HI.out.bm.lt
      have fm := HI.out.bm.frozen
      go_enter Tryz.func68, Tryz.ntmps68
      go_wp2_with fail
      refine (HSt.out _).mono ?_
      rintro e w2 ⟨rfl, hB⟩
      have HI2 := Lib.hid (HI1.out.below hB)
      have hbx2 := Lib.hid ((hB.block _ (by simp)).trans hbx.out)
      have HB2 := Lib.hid hB
      clear hB cm fm lm
      rw [hs]
      have d0 := cell_heap (i := 0) hbx2.out rfl
      have d1 := cell_heap (i := 1) hbx2.out rfl
      have d2 := cell_heap (i := 2) hbx2.out rfl
      have d3 := cell_heap (i := 3) hbx2.out rfl
      have d4 := cell_heap (i := 4) hbx2.out rfl
      have d5 := cell_heap (i := 5) hbx2.out rfl
      have co0 := cell_heap (i := 0) HI2.out.bo rfl
      have co1 := cell_heap (i := 1) HI2.out.bo rfl
      go_wp2_with fail
      refine (HF.out w2 (by have h := HB2.out; exact HR2.out w2 (HI2.out.kp.low))).mono ?_
      rintro e w3 ⟨rfl, hB⟩
      have HI3 := Lib.hid (HI2.out.below hB)
      have hbx3 := Lib.hid ((hB.block _ (Array.getElem?_eq_some_iff.1 hbx2.out).1).trans hbx2.out)
      clear hB d0 d1 d2 d3 d4 d5 co0 co1
      rw [hf]
      have cw := HI3.out.bw.cell
      have lw := HI3.out.bw.lt
      have fw := HI3.out.bw.frozen
      have cm := HI3.out.bm.cell
      have lm := HI3.out.bm.lt
      have fm := HI3.out.bm.frozen
      have s0 := cell_heap (i := 0) hbx3.out rfl
      have s1 := cell_heap (i := 1) hbx3.out rfl
      obtain ⟨v, hv, ho⟩ := HI3.out.be
      have hc := contains_own ho (by have := HE.out; omega) m
      rw [hcc] at hc
      have HC := Lib.hid hc
      have ce := hv.cell
      obtain ⟨va, vn, vc, rfl⟩ : ∃ va vn vc, v = .slice va vn vc := by rcases ho.2 with ⟨h, _⟩ | ⟨g, cap, cur, h, _⟩ <;> exact ⟨_, _, _, h⟩
      clear hv ho hc
      go_wp2_with fail
      refine HC.out.mono ?_
      rintro e w4 ⟨rfl, rfl⟩
      go_wp2
      go_ret
      exact ⟨rfl, RK.set_many HI3.out⟩
    ·have g82 : (k == 8) = false := beq_eq_false_iff_ne.2 g8
     have e : V = (true, ⟨0, many + 1, groups, ended⟩) := by rw [HX.out]; rw [if_neg g7, if_neg (fun h => g8 h.1)]; rfl
     rw [e]
     clear e
     have cm := HI.out.bm.cell
     have lm := HI.out.bm.lt
     have fm := HI.out.bm.frozen
     go_enter Tryz.func68, Tryz.ntmps68
     go_wp2_with fail
     refine (HSt.out _).mono ?_
     rintro e w2 ⟨rfl, hB⟩
     have HI2 := Lib.hid (HI1.out.below hB)
     have hbx2 := Lib.hid ((hB.block _ (by simp)).trans hbx.out)
     have HB2 := Lib.hid hB
     clear hB cm fm lm
     rw [hs]
     have d0 := cell_heap (i := 0) hbx2.out rfl
     have d1 := cell_heap (i := 1) hbx2.out rfl
     have d2 := cell_heap (i := 2) hbx2.out rfl
     have d3 := cell_heap (i := 3) hbx2.out rfl
     have d4 := cell_heap (i := 4) hbx2.out rfl
     have d5 := cell_heap (i := 5) hbx2.out rfl
     have co0 := cell_heap (i := 0) HI2.out.bo rfl
     have co1 := cell_heap (i := 1) HI2.out.bo rfl
     go_wp2_with fail
     refine (HF.out w2 (by have h := HB2.out; exact HR2.out w2 (HI2.out.kp.low))).mono ?_
     rintro e w3 ⟨rfl, hB⟩
     have HI3 := Lib.hid (HI2.out.below hB)
     have hbx3 := Lib.hid ((hB.block _ (Array.getElem?_eq_some_iff.1 hbx2.out).1).trans hbx2.out)
     clear hB d0 d1 d2 d3 d4 d5 co0 co1
     rw [hf]
     have cw := HI3.out.bw.cell
     have lw := HI3.out.bw.lt
     have fw := HI3.out.bw.frozen
     have cm := HI3.out.bm.cell
     have lm := HI3.out.bm.lt
     have fm := HI3.out.bm.frozen
     have s0 := cell_heap (i := 0) hbx3.out rfl
     have s1 := cell_heap (i := 1) hbx3.out rfl
     go_wp2
     go_ret
     exact ⟨rfl, RK.set_many HI3.out⟩
end Go.Proofs.YtamhkdlcoghdbaaGreatDoor.PCls
