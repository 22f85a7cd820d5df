/- Right's second closure: what is done at each leaving. -/
import Derived.Test.YtamhkdlcoghdbaaTRight1
namespace Go.Proofs.Ytamhkdlcoghdbaa.PCls
open Go.RowKit Go.Proofs.YtamhkdlcoghdbaaW.PrintWords Go.Proofs.YtamhkdlcoghdbaaW.PrintLast Go.Proofs.YtamhkdlcoghdbaaW.PrintMore
set_option linter.unusedVariables false
set_option linter.unusedSimpArgs false

theorem info3' : (Try.prog.info? 3).map (fun i => (i.zero, i.size, i.bytes)) = some (some (.int .i64 0), 1, 8) := by kernel_rfl

theorem RK.appended {N0 : Nat} {chars fold : Bool} {wrong many groups : Int} {ended ended' : List Int} {w A B : World} {v v' : Value} {tmp : Obj} (h : RK N0 chars fold wrong many groups ended w A)
    (hv : Boxed A (N0 + 5) 75 v) (ho : A.ownsRow (N0 + 6) 3 1 v ended.length (ended.map (Value.int .i64))) (hg : (A.alloc tmp).grownBy B v.ownBlock) (ho' : B.ownsRow (N0 + 6) 3 1 v' ended'.length (ended'.map (Value.int .i64))) :
    RK N0 chars fold wrong many groups ended' w (B.setCell ⟨N0 + 5, 0, none⟩ v') ∧ Boxed B (N0 + 5) 75 v := by
  have hs := h.sz
  have hne : ∀ b, b < N0 + 6 → some b ≠ v.ownBlock := by
    intro b hb e
    have := ho.lt b e.symm
    omega
  have hb : ∀ b, b < N0 + 6 → B.heap[b]? = A.heap[b]? := fun b hb' => (hg.block b (by simp; omega) (hne b hb')).trans (Below.heap_alloc _ _ _ (by omega))
  have hsz : A.heap.size ≤ B.heap.size := by have := hg.size; simp at this; omega
  have hk : KeepsT N0 A B := ⟨hg.os, hg.tape, hg.output, hsz, fun b hb' => hb b (by omega), fun b cells t fr hc ht => by
    have hlt := (Array.getElem?_eq_some_iff.1 hc).1
    refine (hg.block b (by simp; omega) (fun e => ?_)).trans (Below.heap_alloc _ _ _ hlt)
    obtain ⟨cs, hcs⟩ := own_typed ho b e.symm
    rw [hc] at hcs
    cases hcs
    rcases ht with h | h <;> exact absurd h (by decide)⟩
  have hbox : Boxed B (N0 + 5) 75 v := (hb _ (by omega)).trans hv
  exact ⟨⟨boxed_other ((hb _ (by omega)).trans h.bw) (by omega), boxed_other ((hb _ (by omega)).trans h.bm) (by omega), boxed_other ((hb _ (by omega)).trans h.bg) (by omega), ⟨v', hbox.set v', own_other ho' (by omega)⟩,
    (Below.heap_setCell _ _ _ _ (by simp only; omega)).trans ((hb _ (by omega)).trans h.bo), (h.kp.trans hk).setCell (p := ⟨N0 + 5, 0, none⟩) (by simp only; omega) hbox (by decide) _, by simp [World.setCell]; omega⟩, hbox⟩

set_option maxHeartbeats 4000000 in
set_option maxRecDepth 100000 in
theorem right_leave (N0 : Nat) (chars fold : Bool) (k m lo hi d a : Int) (ar ak : Option Addr) (lr cr lk ck : Nat) (f l b : Bool) (wrong many groups : Int) (ended : List Int) (w0 w : World)
    (hI : RK N0 chars fold wrong many groups ended w0 w) (hel : ended.length < 1099511627776) :
    Calls Try.prog 86 #[.agg #[.int .i64 k, .int .i64 m, .int .i64 lo, .int .i64 hi, .slice ar lr cr, .slice ak lk ck, .int .i64 d, .int .i64 a, .bool f, .bool l, .bool b], .pointer (some ⟨N0 + 5, 0, none⟩)] w
      fun e w' => e = .returned (.tuple #[]) ∧ RK N0 chars fold wrong many groups (if k = 7 then ended ++ [m] else ended) w0 w' := by
  have HI := Lib.hid hI
  have HE := Lib.hid hel
  clear hI hel
  by_cases g7 : k = 7
  · subst g7
    rw [if_pos rfl]
    obtain ⟨v, hv, ho⟩ := HI.out.be
    have HV := Lib.hid hv
    have HO := Lib.hid ho
    have ce := hv.cell
    have fe := hv.frozen
    have le := hv.lt
    obtain ⟨i0, hi0, hz0, hz1, hz2⟩ := info_parts info3'
    have HH := Lib.hid (And.intro hi0 (And.intro hz0 (And.intro hz1 hz2)))
    obtain ⟨va, vn, vc, rfl⟩ : ∃ va vn vc, v = .slice va vn vc := by rcases ho.2 with ⟨h, _⟩ | ⟨g, cap, cur, h, _⟩ <;> exact ⟨_, _, _, h⟩
    clear hv ho hi0 hz0 hz1 hz2
    go_enter Try.func86, Try.ntmps86
    go_wp2_with (at_builtin; refine wpList_append_own _ rfl _ _ 75 rfl (N0 + 6) 3 i0 _ 1 8 Try.underlying75 HH.out.1 HH.out.2.1 HH.out.2.2.1 HH.out.2.2.2 rfl (by decide) _ _ _ rfl ((HO.out.alloc _).alloc _) ⟨w.heap.size + 1, 0, none⟩ 1 1 [.int .i64 m] rfl ?qc1 ?qc2 ?qc3 ?qc4 ?qc5 ?qc6 ?_)
    case qc1 => rfl
    case qc2 =>
      intro j u hj
      match j, hj with
      | 0, hj =>
        simp at hj
        subst hj
        have := cell_heap (i := 0) (World.alloc_heap_new (w.alloc (.cells #[.int .i64 7, .int .i64 m, .int .i64 lo, .int .i64 hi, .slice ar lr cr, .slice ak lk ck, .int .i64 d, .int .i64 a, .bool f, .bool l, .bool b] 78)) (.cells #[.int .i64 m] 3)) rfl
        rw [World.size_alloc] at this
        exact this
    case qc3 => intro u hu; simp at hu; subst hu; rfl
    case qc4 => unfold maxLen; have := HE.out; omega
    case qc5 => have := HE.out; omega
    case qc6 => have := HI.out.sz; simp; omega
    intro v' w1 hown hgrow hnil
    obtain ⟨g', cap', rfl⟩ := ownsRow_succ hown
    obtain ⟨hR, hbx⟩ := RK.appended (ended' := ended ++ [m]) (HI.out.alloc (.cells #[.int .i64 7, .int .i64 m, .int .i64 lo, .int .i64 hi, .slice ar lr cr, .slice ak lk ck, .int .i64 d, .int .i64 a, .bool f, .bool l, .bool b] 78)) (HV.out.alloc _) (HO.out.alloc _) hgrow (by simpa using hown)
    have HRR := Lib.hid hR
    have c2 := hbx.cell
    have f2 := hbx.frozen
    clear hR hbx hown hgrow hnil
    go_wp2
    go_end0
    exact ⟨rfl, by simpa using HRR.out⟩
  · have g72 : (k == 7) = false := beq_eq_false_iff_ne.2 g7
    rw [if_neg g7]
    go_enter Try.func86, Try.ntmps86
    go_wp2
    go_end0
    exact ⟨rfl, HI.out.alloc _⟩
end Go.Proofs.Ytamhkdlcoghdbaa.PCls
