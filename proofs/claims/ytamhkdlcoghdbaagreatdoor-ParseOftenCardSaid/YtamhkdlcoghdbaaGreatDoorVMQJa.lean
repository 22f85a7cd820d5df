/- Put together (wip/tools/pack.py): QJa, QJb. -/
import Derived.Test.YtamhkdlcoghdbaaGreatDoorVMQWp
/- Out of Ja (wip/tools/prune2.py): the declarations alone that the texts of the trees name. -/
namespace Go.Proofs.YtamhkdlcoghdbaaGreatDoor.PCls
open Go.RowKit Go.Shelf Go.Proofs.YtamhkdlcoghdbaaGreatDoorW.PrintWords Go.Proofs.YtamhkdlcoghdbaaGreatDoorW.PrintLast Go.Proofs.YtamhkdlcoghdbaaGreatDoorW.PrintMore
set_option linter.unusedVariables false
set_option linter.unusedSimpArgs false
theorem sorted_of {l s : List S64} (h : api_Range_105.f l = some s) : s.Perm l ∧ s.Pairwise (fun r s => r.f0 ≤ s.f0) := by
  unfold api_Range_105.f at h
  split at h
  case isFalse => cases h
  obtain ⟨D, hD⟩ : ∃ D, D = Go.Sort.pdq (Go.Proofs.ltOf byLo) l.toArray 0 l.length (Lib.bitLen l.length) true true := ⟨_, rfl⟩
  rw [← hD] at h
  have hs := (Option.some.inj h).symm
  have hp := Go.Sort.pdq_sorts (ltOf byLo) swo_byLo l.toArray 0 l.length (Lib.bitLen l.length) true true (Nat.zero_le _) (by simp) (Or.inl rfl)
  rw [← hD] at hp
  have hsz : D.size = l.length := by rw [hp.1.1]; simp
  have hperm : s.Perm l := by
    have h3 := hp.1.2.2
    rw [hs]
    have e1 : D.extract 0 l.length = D := by rw [← hsz]; simp
    rw [e1] at h3
    simpa using h3
  refine ⟨hperm, ?_⟩
  rw [List.pairwise_iff_getElem]
  intro i j hi hj hij
  have h2 := hp.2 i j (Nat.zero_le _) hij (by rw [← hperm.length_eq]; exact hj)
  rw [ltOf_byLo] at h2
  subst hs
  rw [getElem!_pos D i (by simpa using hi), getElem!_pos D j (by simpa using hj)] at h2
  simpa using h2
theorem own_sl {W : World} {base : Nat} {v : Value} {l : List S64} (h : W.ownsRow base 39 2 v l.length (rowOf l)) : SlAt W v l := by
  rcases h.2 with ⟨e, h0⟩ | ⟨g, cap, cur, e, hb, hh, hc, hm, hs, htk⟩
  · exact ⟨none, 0, by rw [e, h0], by omega, fun j r hj => by have := (List.getElem?_eq_some_iff.1 hj).1; omega⟩
  · refine ⟨_, cap, e, hc, fun j r hj => ⟨g, 0, rfl, (Array.getElem?_eq_some_iff.1 hh).1, ?_, ?_⟩⟩
    · have h1 := (rowOf_at l j r hj).1
      rw [← htk, List.getElem?_take] at h1
      split at h1
      · rw [Nat.zero_add]; exact lk_cell hh (by simpa using h1)
      · cases h1
    · have h1 := (rowOf_at l j r hj).2
      rw [← htk, List.getElem?_take] at h1
      split at h1
      · rw [Nat.zero_add]; exact lk_cell hh (by simpa using h1)
      · cases h1
theorem jset {W : World} {g : Nat} {t : TypeId} {cur : Array Value} (h : W.heap[g]? = some (.cells cur t (0, 0))) (o : Nat) (v : Value) : (W.setCell ⟨g, o, none⟩ v).heap[g]? = some (.cells (cur.setIfInBounds o v) t (0, 0)) := by
  simp only [World.setCell, Array.getElem?_modify]
  rw [h]
  simp
theorem jcells {n : Nat} {A W : World} (h : Below n A W) : ∀ b o, b < n → W.cell? ⟨b, o, none⟩ = A.cell? ⟨b, o, none⟩ := fun b o hb => h.cell (p := ⟨b, o, none⟩) hb
/-- the last range, and another end of it -/
theorem own_lastJ {W : World} {base : Nat} {v : Value} {a : List S64} {x : S64} (h : W.ownsRow base 39 2 v (a ++ [x]).length (rowOf (a ++ [x]))) : ∃ g c, v = .slice (some ⟨g, 0, none⟩) (a.length + 1) c ∧ base ≤ g ∧ g < W.heap.size ∧ W.cell? ⟨g, a.length * 2 + 1, none⟩ = some (.int .i64 x.f1) ∧ W.frozen? ⟨g, a.length * 2 + 1, none⟩ = false ∧
    ∀ u, (W.setCell ⟨g, a.length * 2 + 1, none⟩ (.int .i64 u)).ownsRow base 39 2 v (a ++ [(⟨x.f0, u⟩ : S64)]).length (rowOf (a ++ [(⟨x.f0, u⟩ : S64)])) := by
  rcases h.2 with ⟨e, h0⟩ | ⟨g, cap, cur, e, hb, hh, hc, hm, hs, htk⟩
  · simp at h0
  · refine ⟨g, cap, by rw [e]; simp, hb, (Array.getElem?_eq_some_iff.1 hh).1, ?_, by simp [World.frozen?, hh], fun u => ⟨by rw [rowOf_length], .inr ⟨g, cap, cur.setIfInBounds (a.length * 2 + 1) (.int .i64 u), by rw [e]; simp, hb, jset hh _ _, by simpa using hc, hm, by simpa using hs, ?_⟩⟩⟩
    · have h1 := (rowOf_at (a ++ [x]) a.length x (by simp)).2
      rw [← htk, List.getElem?_take] at h1
      split at h1
      · exact lk_cell hh (by simpa using h1)
      · cases h1
    · have e2 : (a ++ [(⟨x.f0, u⟩ : S64)]).length = (a ++ [x]).length := by simp
      rw [e2, Array.toList_setIfInBounds, List.take_set, htk, rowOf_snoc, rowOf_snoc, List.set_append_right _ _ (by rw [rowOf_length]; omega), rowOf_length, show a.length * 2 + 1 - a.length * 2 = 1 by omega]
      rfl
/-- between two rounds -/
def JnHd (w2 wr : World) (s C : List S64) (i : Nat) (v3 : Value) : Prop := ∃ out : List S64, wr.ownsRow w2.heap.size 39 2 v3 out.length (rowOf out) ∧ Below w2.heap.size w2 wr ∧ (out.length ≤ i ∧ inR out = true) ∧ Cls.mrg out (s.drop i) = C
theorem mrg_cons (out : List S64) (r : S64) (l : List S64) : Cls.mrg out (r :: l) = Cls.mrg (Cls.put out r) l := rfl
theorem inR_snoc {l : List S64} {r : S64} : inR (l ++ [r]) = true ↔ inR l = true ∧ -9223372036854775808 ≤ r.f0 ∧ r.f0 ≤ 9223372036854775807 ∧ -9223372036854775808 ≤ r.f1 ∧ r.f1 ≤ 9223372036854775807 := by
  simp only [inR_iff, List.mem_append, List.mem_singleton]
  exact ⟨fun h => ⟨fun x hx => h x (.inl hx), h r (.inr rfl)⟩, fun h x hx => by rcases hx with hx | rfl; exact h.1 x hx; exact h.2⟩
def jnB (out : List S64) (lo : Int) : Bool := match out.getLast? with
  | none => false
  | some x => decide (lo ≤ x.f1 + 1)
theorem put_no {out : List S64} {r : S64} (h : jnB out r.f0 = false) : Cls.put out r = out ++ [r] := by
  rcases List.eq_nil_or_concat out with rfl | ⟨a, x, rfl⟩
  · rfl
  · rw [List.concat_eq_append] at h ⊢
    unfold jnB at h
    rw [List.getLast?_concat] at h
    rw [put_snoc, if_neg (of_decide_eq_false h)]
theorem put_yes {out : List S64} {r : S64} (h : jnB out r.f0 = true) : ∃ a x, out = a ++ [x] ∧ Cls.put out r = a ++ [⟨x.f0, max x.f1 r.f1⟩] := by
  rcases List.eq_nil_or_concat out with rfl | ⟨a, x, rfl⟩
  · cases h
  · rw [List.concat_eq_append] at h ⊢
    unfold jnB at h
    rw [List.getLast?_concat] at h
    exact ⟨a, x, rfl, by rw [put_snoc, if_pos (of_decide_eq_true h)]⟩
set_option maxHeartbeats 8000000 in
set_option maxRecDepth 100000 in
theorem joined_calls (w0 w : World) (v : Value) (l : List S64) (hB : Below w0.heap.size w0 w) (h : w.ownsRow w0.heap.size 39 2 v l.length (rowOf l)) (hin : inR l = true) (hl : l.length < 4000000) :
    Calls Tryz.prog 118 #[v] w fun e w' => ∃ v', e = .returned v' ∧ w'.ownsRow w0.heap.size 39 2 v' (Cls.cls l).length (rowOf (Cls.cls l)) ∧ Below w0.heap.size w0 w' := by
  obtain ⟨t, ht⟩ : ∃ t, t = l.filter fun r => decide (r.f0 ≤ r.f1) := ⟨_, rfl⟩
  have H1 := Lib.hid (api_Range_103.calls (fun _ => True) v l t w0 w hB (R_of_own h (fun _ _ => trivial)) (by rw [ht]; rfl))
  have htl : t.length < 4000000 := by have := List.length_filter_le (fun r : S64 => decide (r.f0 ≤ r.f1)) l; rw [ht]; omega
  obtain ⟨s, hs⟩ : ∃ s, api_Range_105.f t = some s := ⟨_, by unfold api_Range_105.f; rw [if_pos (by omega)]⟩
  obtain ⟨hp, hsort⟩ := sorted_of hs
  have hC : Cls.mrg [] s = Cls.cls l := by
    have h := Cls.mrg_of_sorted l s (by rw [← ht]; exact hp) hsort
    exact Cls.cls_unique h.1 h.2
  have hsin : inR s = true := (inR_iff s).2 fun r hr => (inR_iff l).1 hin r (by
    have := hp.mem_iff.1 hr
    rw [ht] at this
    exact (List.mem_filter.1 this).1)
  have hsl : s.length < 4000000 := by rw [hp.length_eq]; exact htl
  obtain ⟨C, hCe⟩ : ∃ C, C = Cls.cls l := ⟨_, rfl⟩
  rw [← hCe] at hC ⊢
  have HS := Lib.hid (And.intro hs (And.intro hC hsin))
  clear hs hC hsin hp hsort hCe h hin hl htl ht hB
  go_enter Tryz.func118, Tryz.ntmps118
  go_wp2_with fail
  refine H1.out.mono ?_
  rintro e w1 ⟨v1, rfl, hR1, hB1, _⟩
  have H2 := Lib.hid (api_Range_105.calls _ v1 t s w0 w1 hB1 hR1 HS.out.1)
  clear hR1 hB1 H1
  go_wp2_with fail
  refine H2.out.mono ?_
  rintro e w2 ⟨rfl, hR2, hB2, _⟩
  obtain ⟨A, c, rfl, hc, hrd⟩ := own_sl (own_of_R hR2)
  have HRD := Lib.hid hrd
  have HB2 := Lib.hid hB2
  have HST := Lib.hid (show JnHd w2 w2 s C 0 (.slice none 0 0) from ⟨[], ⟨rfl, .inl ⟨rfl, rfl⟩⟩, Below.refl _ _, ⟨Nat.le_refl _, rfl⟩, HS.out.2.1⟩)
  clear hR2 hB2 hrd H2
  go_wp2_with fail
  go_loopg [3, 13] s.length (fun gg s3 s13 wr => ∃ i : Nat, i ≤ s.length ∧ s13 = .int .i64 i ∧ Aside0 (JnHd w2 wr s C i s3) ∧ s.length - i ≤ gg)
  case atStart => exact ⟨0, Nat.zero_le _, rfl, ⟨HST.out⟩, by omega⟩
  case round =>
    obtain ⟨i, hi, rfl, HJ, hgg⟩ := hrel
    obtain ⟨out, ho, hbw, hol, heq⟩ := HJ.out
    by_cases hlt : i < s.length
    · obtain ⟨r, hr⟩ : ∃ r, s[i]? = some r := ⟨_, List.getElem?_eq_getElem hlt⟩
      obtain ⟨gx, ox, rfl, hgx, hc0, hc1⟩ := HRD.out i r hr
      have hrin := inR_at HS.out.2.2 hr
      have k0 := (hbw.cell (p := ⟨gx, _, none⟩) hgx).trans hc0
      have k1 := (hbw.cell (p := ⟨gx, _, none⟩) hgx).trans hc1
      have hdr : s.drop i = r :: s.drop (i + 1) := by
        obtain ⟨hi', e⟩ := List.getElem?_eq_some_iff.1 hr
        rw [List.drop_eq_getElem_cons hi', e]
      rw [hdr, mrg_cons] at heq
      have hlz : (i : Int) < (s.length : Int) := by omega
      have hi9 : i + 1 < 900000000000000 := by omega
      have hgx2 := Nat.lt_of_lt_of_le hgx hbw.size
      obtain ⟨rlo, rhi⟩ := r
      simp only [S64.f0, S64.f1] at k0 k1 hrin heq
      have HI := Lib.hid (And.intro ho (And.intro hbw heq))
      have hoin := hol.2
      have hol1 := hol.1
      clear ho hbw heq hdr HST HJ hc0 hc1 hr hol
      go_upto_region 7 with fail
      obtain ⟨q, hq⟩ : ∃ q, q = wr.heap.size := ⟨_, rfl⟩
      obtain ⟨W3, hW3⟩ : ∃ X, X = wr.alloc (Obj.cells #[Value.int IntKind.i64 rlo, Value.int IntKind.i64 rhi] 39) := ⟨_, rfl⟩
      rw [← hW3, ← hq]
      have g0 : W3.heap[q]? = some (.cells #[.int .i64 rlo, .int .i64 rhi] 39 (0, 0)) := by rw [hW3, hq]; exact heap_alloc_new _ _
      have o3 : W3.ownsRow w2.heap.size 39 2 u3 out.length (rowOf out) := by rw [hW3]; exact HI.out.1.alloc _
      have b3 : Below w2.heap.size w2 W3 := by rw [hW3]; exact HI.out.2.1.alloc HI.out.2.1.size _
      have HQ := Lib.hid (And.intro o3 (And.intro b3 HI.out.2.2))
      have c0 := lk_cell (i := 0) g0 rfl
      have c1 := lk_cell (i := 1) g0 rfl
      have hql := (Array.getElem?_eq_some_iff.1 g0).1
      have hq2 : w2.heap.size ≤ q := by rw [hq]; exact HI.out.2.1.size
      have HG := Lib.hid (And.intro g0 hq)
      clear hW3 hq g0 o3 b3 k0 k1 HI
      obtain ⟨A3, c3, rfl, hc3, _⟩ := own_sl HQ.out.1
      obtain ⟨no, hno⟩ : ∃ n, n = out.length := ⟨_, rfl⟩
      rw [← hno]
      have hn0 : (0 : Int) ≤ (no : Int) := by omega
      have hn9 : (no : Int) < 4000000 := by omega
      have HNO := Lib.hid hno
      clear hno hc3
      obtain ⟨bb, hbb⟩ : ∃ b : Bool, b = jnB out rlo := ⟨_, rfl⟩
      have HBB := Lib.hid hbb
      clear hbb
      go_upto_region 8 with fail
      go_cut [47] (fun s47 wc => s47 = .bool bb ∧ Aside0 (wc.heap = W3.heap ∧ Below w2.heap.size w2 wc))
      case first =>
        rcases List.eq_nil_or_concat out with rfl | ⟨a, x, rfl⟩
        · have hb0 : bb = false := HBB.out
          obtain rfl : no = 0 := HNO.out
          subst hb0
          go_wp2
          repeat (go_quiet (fail); try go_wp2)
          go_meet
          exact ⟨rfl, ⟨rfl, pw_below_drewN HQ.out.2.1 _⟩⟩
        · have hla : (a.concat x).length = a.length + 1 := by simp
          obtain ⟨g, c4, e, hg, hgl, m1, mf, mset⟩ := own_lastJ (a := a) (x := x) (by have h := HQ.out.1; rw [List.concat_eq_append] at h; exact h)
          obtain ⟨rfl, e2, rfl⟩ := Value.slice.inj e
          have hb1 : bb = decide (rlo ≤ x.f1 + 1) := by rw [HBB.out, List.concat_eq_append]; unfold jnB; rw [List.getLast?_concat]
          have hxin := ((inR_snoc (l := a) (r := x)).1 (by rw [List.concat_eq_append] at hoin; exact hoin)).2
          have hn1 : no = a.length + 1 := HNO.out.trans hla
          have hw1 : wrap64 ((no : Int) - 1) = (a.length : Int) := (w64_lit _ (by omega) (by omega)).trans (by omega)
          have hl0 : (0 : Int) ≤ (a.length : Int) := by omega
          have hl1 : (a.length : Int) < (no : Int) := by omega
          have hn2 : (0 : Int) < (no : Int) := by omega
          have hn3 : 0 < no := by omega
          have hn4 : a.length < no := by omega
          have HX := Lib.hid (And.intro hb1 hn1)
          clear mset mf e e2 hb1 hn1 hla hoin hol1 HBB
          have hway : (rlo ≤ x.f1 ∧ bb = true) ∨ (¬ rlo ≤ x.f1 ∧ (rlo - 1 == x.f1) = true ∧ bb = true) ∨ (¬ rlo ≤ x.f1 ∧ (rlo - 1 == x.f1) = false ∧ bb = false) := by
            rw [HX.out.1]
            by_cases h1 : rlo ≤ x.f1
            · exact .inl ⟨h1, decide_eq_true (by omega)⟩
            · by_cases h2 : rlo - 1 = x.f1
              · exact .inr (.inl ⟨h1, by rw [beq_iff_eq]; exact h2, decide_eq_true (by omega)⟩)
              · exact .inr (.inr ⟨h1, by rw [beq_eq_false_iff_ne]; exact h2, decide_eq_false (by omega)⟩)
          have hfit : ¬ rlo ≤ x.f1 → wrap64 (rlo - 1) = rlo - 1 := fun h => w64_lit _ (by omega) (by omega)
          clear HX
          rcases hway with ⟨h1, rfl⟩ | ⟨h1, h3, rfl⟩ | ⟨h1, h3, rfl⟩
          rotate_left
          all_goals
            try have hf := hfit h1
            clear hfit
            refine go_start (fun w' => w'.heap = W3.heap ∧ Below W3.heap.size W3 w') [] [.p 0, .p 1, .p 2, .p 3, .t 4, .p 5, .p 6, .p 7, .p 8, .p 9, .t 10, .p 11, .p 12, .p 13, .p 14, .p 15, .p 16, .p 17, .t 18, .p 19, .p 20, .p 21, .p 22, .p 23, .p 24, .t 25, .p 26, .p 27, .p 28] (by kernel_rfl) (by kernel_rfl) (fun c d v a w h => by cases d <;> exact h) ⟨rfl, (Below.refl _ W3).drew⟩ (fun w8 hS8 => ?_)
            repeat first
            | refine go_p (v := undef) (b := ?_) rfl (.inr ⟨by rfl, rfl⟩) ?_ ?_
              rotate_left
              · simp only [Act.put, pu_, pz_, ps_, i64_w, i32_w]; rfl
              rotate_right
            | refine go_t (v := undef) (b := ?_) rfl (.inr ⟨by rfl, rfl⟩) ?_ ?_
              rotate_left
              · simp only [Act.put, pu_, pz_, ps_, i64_w, i32_w]; rfl
              rotate_right
            | refine go_p (v := ?_) (b := ?_) rfl (.inl ⟨by rfl, ?_⟩) ?_ ?_
              rotate_left 2
              · intro w'; go_simp; with_reducible rfl
              · simp only [Act.put, pu_, pz_, ps_, i64_w, i32_w]; rfl
            | refine go_t (v := ?_) (b := ?_) rfl (.inl ⟨by rfl, ?_⟩) ?_ ?_
              rotate_left 2
              · intro w' hS; have hc := jcells hS.2; go_simp; with_reducible rfl
              · simp only [Act.put, pu_, pz_, ps_, i64_w, i32_w]; rfl
            refine go_done ?_
            have HS8 := Lib.hid (And.intro hS8.1 (HQ.out.2.1.trans (hS8.2.mono HQ.out.2.1.size)))
            clear hS8
            go_wp2_with fail
            go_meet
            exact ⟨rfl, ⟨HS8.out⟩⟩
      case rest =>
        obtain ⟨rfl, HW⟩ := hcut
        have gc := (congrArg (·[q]?) HW.out.1).trans HG.out.1
        have oc : wc.ownsRow w2.heap.size 39 2 (.slice A3 out.length c3) out.length (rowOf out) := ownMove HQ.out.1 (fun k _ => congrArg (·[k]?) HW.out.1)
        rw [HNO.out]
        have k0 := lk_cell (i := 0) gc rfl
        have k1 := lk_cell (i := 1) gc rfl
        have hqc := (Array.getElem?_eq_some_iff.1 gc).1
        clear c0 c1 hql
        cases hb : bb with
        | false =>
          rw [hb] at HBB
          have hput := put_no (r := ⟨rlo, rhi⟩) HBB.out.symm
          obtain ⟨v', W5, hrun, hown, hg, hat⟩ := own_range (X := wc.alloc (.cells #[.int .i64 rlo, .int .i64 rhi] 39)) (oc.alloc _) ⟨wc.heap.size, 0, none⟩ rlo rhi (by have := HW.out.2.size; simp; omega) (by omega) (lk_cell (i := 0) (heap_alloc_new _ _) rfl) (lk_cell (i := 1) (heap_alloc_new _ _) rfl)
          have HRUN := Lib.hid hrun
          have hbx := (HW.out.2.alloc HW.out.2.size (.cells #[.int .i64 rlo, .int .i64 rhi] 39)).grown hg (by have := HW.out.2.size; simp; omega) (fun k hk => (ownLt oc k hk).1)
          have HO := Lib.hid (show JnHd w2 W5 s C (i + 1) v' from ⟨out ++ [⟨rlo, rhi⟩], hown, hbx, ⟨by simp; omega, inR_snoc.2 ⟨hoin, hrin⟩⟩, by rw [← hput]; exact HQ.out.2.2⟩)
          clear hrun hown hg hat hbx hput oc gc HQ HG HBB HNO hn0 hn9
          go_wp2_with (at_builtin; refine Lib.wpList_append_run _ rfl _ _ _ _ rfl _ _ rfl rfl _ _ HRUN.out ?_)
          go_roundg (s.length - (i + 1))
          case measure => omega
          case rel => exact ⟨i + 1, by omega, by go_num, ⟨HO.out⟩, Nat.le_refl _⟩
        | true =>
          rw [hb] at HBB
          obtain ⟨a, x, hax, hput⟩ := put_yes (r := ⟨rlo, rhi⟩) HBB.out.symm
          rw [hax] at oc hoin
          have hHQ := HQ.out.2.2
          rw [hput] at hHQ
          obtain ⟨g, c4, e, hg, hgl, m1, mf, mset⟩ := own_lastJ oc
          obtain ⟨hA3, e2, hc34⟩ := Value.slice.inj e
          have hn1 : no = a.length + 1 := by rw [HNO.out, hax]; simp
          rw [hA3, hc34]
          have hw1 : wrap64 ((no : Int) - 1) = (a.length : Int) := (w64_lit _ (by omega) (by omega)).trans (by omega)
          have hl0 : (0 : Int) ≤ (a.length : Int) := by omega
          have hl1 : (a.length : Int) < (no : Int) := by omega
          have hl2 : a.length < no := by omega
          have hxin := (inR_snoc.1 hoin)
          rw [e, ← hn1] at mset
          have HX := Lib.hid (And.intro hn1 (And.intro mset (And.intro hHQ hxin)))
          have HGC := Lib.hid gc
          clear hn1 mset hHQ hxin e e2 hA3 hc34 oc gc HQ HG HBB hax hput hoin
          rw [← HNO.out]
          go_wp2_with fail
          refine go_start (fun w' => w'.heap = wc.heap ∧ Below wc.heap.size wc w') [14] [.p 0, .p 1, .p 2, .p 3, .p 4, .p 5, .p 6, .p 7, .t 8, .p 9, .t 10, .p 11, .p 12, .p 13, .z 14] (by kernel_rfl) (by kernel_rfl) (fun c d v a w h => by cases d <;> exact h) ⟨rfl, (Below.refl _ wc).drew⟩ (fun w8 hS8 => ?_)
          repeat first
          | refine go_p (v := ?_) (b := ?_) rfl (.inl ⟨by rfl, ?_⟩) ?_ ?_
            rotate_left 2
            · intro w'; go_simp; with_reducible rfl
            · simp only [Act.put, pu_, pz_, ps_, i64_w, i32_w]; rfl
          | refine go_t (v := ?_) (b := ?_) rfl (.inl ⟨by rfl, ?_⟩) ?_ ?_
            rotate_left 2
            · intro w' hS; have hc := jcells hS.2; go_simp; with_reducible rfl
            · simp only [Act.put, pu_, pz_, ps_, i64_w, i32_w]; rfl
          have m8 : w8.cell? ⟨g, a.length * 2 + 1, none⟩ = some (.int .i64 x.f1) := (hS8.2.cell (p := ⟨g, _, none⟩) hgl).trans m1
          have f8 : w8.frozen? ⟨g, a.length * 2 + 1, none⟩ = false := by rw [World.frozen?, hS8.1]; exact mf
          refine go_skipz (w1 := w8.setCell ⟨g, a.length * 2 + 1, none⟩ (.int .i64 (max x.f1 rhi))) rfl (by rfl) (by go_simp; first | done | rfl) ?_
          refine go_done ?_
          have HO := Lib.hid (show JnHd w2 (w8.setCell ⟨g, a.length * 2 + 1, none⟩ (.int .i64 (max x.f1 rhi))) s C (i + 1) (.slice (some ⟨g, 0, none⟩) no c4) from by
            refine ⟨a ++ [⟨x.f0, max x.f1 rhi⟩], ?_, ((HW.out.2.trans (hS8.2.mono HW.out.2.size))).setCell hg _, ⟨by have := HX.out.1; have := HNO.out; simp; omega, inR_snoc.2 ⟨HX.out.2.2.2.1, HX.out.2.2.2.2.1, HX.out.2.2.2.2.2.1, by have h1 := HX.out.2.2.2.2; have h2 := hrin; simp only; omega, by have h1 := HX.out.2.2.2.2; have h2 := hrin; simp only; omega⟩⟩, HX.out.2.2.1⟩
            refine ownMove (HX.out.2.1 (max x.f1 rhi)) (fun k _ => ?_)
            simp only [World.setCell, hS8.1])
          clear m8 f8 m1 mf hS8 HX k0 k1
          go_wp2_with fail
          go_roundg (s.length - (i + 1))
          case measure => omega
          case rel => exact ⟨i + 1, by omega, by go_num, ⟨HO.out⟩, Nat.le_refl _⟩
    · have hd0 : s.drop i = [] := List.drop_eq_nil_of_le (by omega)
      rw [hd0] at heq
      have e : out = C := heq
      subst e
      have HF := Lib.hid (And.intro (own_weaken ho HB2.out.size) (HB2.out.trans (hbw.mono HB2.out.size)))
      clear ho hbw hol heq HJ hd0
      go_wp2_with fail
      go_ret
      exact ⟨_, rfl, HF.out⟩
end Go.Proofs.YtamhkdlcoghdbaaGreatDoor.PCls
/- Out of Jb (wip/tools/prune2.py): the declarations alone that the texts of the trees name. -/
namespace Go.Proofs.YtamhkdlcoghdbaaGreatDoor.PCls
open Go.RowKit Go.Shelf Go.Proofs.YtamhkdlcoghdbaaGreatDoorW.PrintWords Go.Proofs.YtamhkdlcoghdbaaGreatDoorW.PrintLast Go.Proofs.YtamhkdlcoghdbaaGreatDoorW.PrintMore
set_option linter.unusedVariables false
set_option linter.unusedSimpArgs false
/-- ranges that are handed in -/
def RdAt (w : World) (A : Option Addr) (c : Nat) (l : List S64) : Prop := Kd.C k64 w A l.length l ∧ l.length ≤ c ∧ inR l = true ∧ l.length < 2000000
theorem RdAt.below {w w' : World} {A : Option Addr} {c : Nat} {l : List S64} (h : RdAt w A c l) (hb : Below w.heap.size w w') : RdAt w' A c l := ⟨Kd.C_below h.1 hb, h.2⟩
theorem Row.rd {w : World} {base : Nat} {v : Value} {l : List S64} (h : Row w base v l) : ∃ A c, v = .slice A l.length c ∧ RdAt w A c l := by
 obtain ⟨A, c, e, hc, hC⟩ := Kd.R_reads h.R
 exact ⟨A, c, e, hC, hc, h.2⟩
set_option maxHeartbeats 4000000 in
set_option maxRecDepth 100000 in
theorem class_calls (w : World) (A : Option Addr) (c : Nat) (l : List S64) (h : RdAt w A c l) : Calls Tryz.prog 193 #[.slice A l.length c] w fun e w' => ∃ v, e = .returned v ∧ Row w' w.heap.size v (Cls.cls l) ∧ Below w.heap.size w w' := by
 obtain ⟨hC, hc, hin, hl⟩ := h
 have H1 := Lib.hid (api_Range_89.calls A c l l w hC hc (by unfold api_Range_89.f; rw [if_pos (by omega)]))
 have HI := Lib.hid (And.intro hin hl)
 clear hC hc hin hl
 go_enter Tryz.func193, Tryz.ntmps193
 go_wp2_with fail
 refine H1.out.mono ?_
 rintro e w1 ⟨v1, rfl, hR, hB⟩
 have H2 := Lib.hid (joined_calls w w1 v1 l hB (own_of_R hR) HI.out.1 (by have := HI.out.2; omega))
 clear hR hB H1
 go_wp2_with fail
 refine H2.out.mono ?_
 rintro e w2 ⟨v2, rfl, ho, hB⟩
 have HF := Lib.hid (And.intro ho hB)
 clear ho hB H2
 go_wp2_with fail
 go_ret
 exact ⟨_, rfl, ⟨HF.out.1, linR_cls l HI.out.1, by have := cls_length l; have := HI.out.2; omega⟩, HF.out.2⟩
theorem inter_length (a b : List S64) : (Cls.inter a b).length ≤ a.length + b.length := by
 fun_induction Cls.inter a b with
 | case1 => simp
 | case2 => simp
 | case3 r a s b ih1 ih2 =>
  rw [List.length_append]
  have h1 : (if max r.f0 s.f0 ≤ min r.f1 s.f1 then [(⟨max r.f0 s.f0, min r.f1 s.f1⟩ : S64)] else []).length ≤ 1 := by split <;> simp
  by_cases hh : r.f1 < s.f1
  ·rw [if_pos hh]; simp only [List.length_cons] at ih1 ⊢; omega
  ·rw [if_neg hh]; simp only [List.length_cons] at ih2 ⊢; omega
theorem inter_cons (r s : S64) (a b : List S64) : Cls.inter (r :: a) (s :: b) = (if max r.f0 s.f0 ≤ min r.f1 s.f1 then [⟨max r.f0 s.f0, min r.f1 s.f1⟩] else []) ++ (if r.f1 < s.f1 then Cls.inter a (s :: b) else Cls.inter (r :: a) b) := by rw [Cls.inter]
theorem SlAt.nil (w : World) (A : Option Addr) (c : Nat) : SlAt w (.slice A 0 c) [] := ⟨A, c, rfl, Nat.zero_le _, fun j r hj => by simp at hj⟩
/-- between two rounds -/
def AnHd (w2 wr : World) (R : List S64) (v0 v1 v5 : Value) (d : Nat) : Prop := ∃ a b out : List S64, SlAt w2 v0 a ∧ SlAt w2 v1 b ∧ wr.ownsRow w2.heap.size 39 2 v5 out.length (rowOf out) ∧ Below w2.heap.size w2 wr ∧ inR a = true ∧ inR b = true ∧ out ++ Cls.inter a b = R ∧ a.length + b.length = d
theorem SlAt.rest {w : World} {A : Option Addr} {c : Nat} {r : S64} {l : List S64} (h : SlAt w (.slice A (l.length + 1) c) (r :: l)) : ∃ g o, A = some ⟨g, o, none⟩ ∧ g < w.heap.size ∧ w.cell? ⟨g, o, none⟩ = some (.int .i64 r.f0) ∧ w.cell? ⟨g, o + 1, none⟩ = some (.int .i64 r.f1) ∧ l.length + 1 ≤ c := by
 obtain ⟨B, c', e, hc, hr⟩ := h
 obtain ⟨rfl, _, rfl⟩ := Value.slice.inj e
 obtain ⟨g, o, e1, h1, h2, h3⟩ := hr 0 r rfl
 exact ⟨g, o, e1, h1, by simpa using h2, by simpa using h3, by simpa using hc⟩
set_option maxHeartbeats 8000000 in
set_option maxRecDepth 100000 in
theorem and_calls (w : World) (A1 A2 : Option Addr) (c1 c2 : Nat) (l1 l2 : List S64) (h1 : RdAt w A1 c1 l1) (h2 : RdAt w A2 c2 l2) : Calls Tryz.prog 161 #[.slice A1 l1.length c1, .slice A2 l2.length c2] w fun e w' => ∃ v, e = .returned v ∧ w'.ownsRow w.heap.size 39 2 v (Cls.and_ l1 l2).length (rowOf (Cls.and_ l1 l2)) ∧ Below w.heap.size w w' := by
 have H1 := Lib.hid (class_calls w A1 c1 l1 h1)
 have H2 := Lib.hid (fun (w' : World) (hb : Below w.heap.size w w') => class_calls w' A2 c2 l2 (h2.below hb))
 obtain ⟨R, hR⟩ : ∃ R, R = Cls.and_ l1 l2 := ⟨_, rfl⟩
 have hRl : R.length < 4000000 := by
  have g1 := inter_length (Cls.cls l1) (Cls.cls l2)
  have g2 := cls_length l1
  have g3 := cls_length l2
  have g4 := h1.2.2.2
  have g5 := h2.2.2.2
  rw [hR]; unfold Cls.and_; omega
 rw [← hR]
 have HR := Lib.hid (And.intro hR hRl)
 clear h1 h2 hR hRl
 go_enter Tryz.func161, Tryz.ntmps161
 go_wp2_with fail
 refine H1.out.mono ?_
 rintro e w1 ⟨v1, rfl, hr1, hb1⟩
 have HX := Lib.hid (And.intro hr1 hb1)
 clear hr1 hb1 H1
 go_wp2_with fail
 refine (H2.out w1 HX.out.2).mono ?_
 rintro e w2 ⟨v2, rfl, hr2, hb2⟩
 have hx2 := HX.out.1.below hb2
 have HST := Lib.hid (show AnHd w2 w2 R v1 v2 (.slice none 0 0) _ from ⟨_, _, [], hx2.sl, hr2.sl, ⟨rfl, .inl ⟨rfl, rfl⟩⟩, Below.refl _ _, hx2.2.1, hr2.2.1, HR.out.1.symm, rfl⟩)
 have HB2 := Lib.hid (HX.out.2.trans (hb2.mono HX.out.2.size))
 clear hr2 hb2 hx2 H2 HX
 go_wp2_with fail
 go_loopg [0, 1, 5] ((Cls.cls l1).length + (Cls.cls l2).length) (fun gg s0 s1 s5 wr => ∃ d, Aside0 (AnHd w2 wr R s0 s1 s5 d) ∧ d ≤ gg)
 case atStart => exact ⟨_, ⟨HST.out⟩, Nat.le_refl _⟩
 case round =>
  obtain ⟨d, HA, hgg⟩ := hrel
  obtain ⟨a, b, out, ha, hb, ho, hbw, hia, hib, heq, hd⟩ := HA.out
  clear HST HA
  have hend : Cls.inter a b = [] → Hid (wr.ownsRow w.heap.size 39 2 u5 R.length (rowOf R) ∧ Below w.heap.size w wr) := fun h0 => by
   rw [h0, List.append_nil] at heq
   rw [← heq]
   exact Lib.hid ⟨own_weaken ho HB2.out.size, HB2.out.trans (hbw.mono HB2.out.size)⟩
  cases a with
  | nil =>
   have HE := hend (by rw [Cls.inter])
   obtain ⟨B, c, rfl, _, _⟩ := ha
   clear hend hb ho hbw heq hd
   go_wp2
   repeat (go_quiet (fail); try go_wp2)
   go_ret
   exact ⟨_, rfl, HE.out⟩
  | cons r a =>
   cases b with
   | nil =>
    have HE := hend (by rw [Cls.inter])
    obtain ⟨B, c, rfl, _, _⟩ := hb
    obtain ⟨B2, c2, rfl, _, _⟩ := ha
    clear hend ho hbw heq hd
    go_wp2
    repeat (go_quiet (fail); try go_wp2)
    go_ret
    exact ⟨_, rfl, HE.out⟩
   | cons s b =>
    clear hend
    rw [inter_cons] at heq
    obtain ⟨B1, k1, rfl, _, _⟩ := id ha
    obtain ⟨B2, k2, rfl, _, _⟩ := id hb
    obtain ⟨g1, o1, rfl, hg1, p0, p1, hk1⟩ := SlAt.rest ha
    obtain ⟨g2, o2, rfl, hg2, q0, q1, hk2⟩ := SlAt.rest hb
    have hta := ha.tail
    have htb := hb.tail
    have HP := Lib.hid (And.intro (And.intro hg1 p1) (And.intro hg2 q1))
    replace p0 := (hbw.cell (p := ⟨g1, _, none⟩) hg1).trans p0
    replace p1 := (hbw.cell (p := ⟨g1, _, none⟩) hg1).trans p1
    replace q0 := (hbw.cell (p := ⟨g2, _, none⟩) hg2).trans q0
    replace q1 := (hbw.cell (p := ⟨g2, _, none⟩) hg2).trans q1
    have hg1' := Nat.lt_of_lt_of_le hg1 hbw.size
    have hg2' := Nat.lt_of_lt_of_le hg2 hbw.size
    have hri := (inR_iff _).1 hia r List.mem_cons_self
    have hsi := (inR_iff _).1 hib s List.mem_cons_self
    have hia' : inR a = true := (inR_iff _).2 fun x hx => (inR_iff _).1 hia x (List.mem_cons_of_mem _ hx)
    have hib' : inR b = true := (inR_iff _).2 fun x hx => (inR_iff _).1 hib x (List.mem_cons_of_mem _ hx)
    have HI := Lib.hid (And.intro ha (And.intro hb (And.intro hta (And.intro htb (And.intro hia (And.intro hib (And.intro hia' hib')))))))
    have HO := Lib.hid (And.intro ho (And.intro hbw heq))
    have HD := Lib.hid hd
    obtain ⟨rlo, rhi⟩ := r
    obtain ⟨slo, shi⟩ := s
    simp only [S64.f0, S64.f1, List.length_cons] at p0 p1 q0 q1 hri hsi hk1 hk2 ⊢
    clear ha hb hta htb hia hib hia' hib' ho hbw heq hd hg1 hg2
    have hla : (0 : Int) < ((a.length + 1 : Nat) : Int) := by omega
    have hlb : (0 : Int) < ((b.length + 1 : Nat) : Int) := by omega
    go_upto_region 4 with fail
    go_cut [6, 7] (fun s6 s7 wc => s6 = .int .i64 (max rlo slo) ∧ s7 = .int .i64 (min rhi shi) ∧ Aside0 (wc.heap = wr.heap ∧ Below w2.heap.size w2 wc))
    case first =>
     go_wp2
     repeat (go_quiet (fail); try go_wp2)
     go_meet
     exact ⟨rfl, rfl, ⟨rfl, pw_below_drewN HO.out.2.1 _⟩⟩
    case rest =>
     obtain ⟨rfl, rfl, HW⟩ := hcut
     obtain ⟨lo, hlo⟩ : ∃ x, x = max rlo slo := ⟨_, rfl⟩
     obtain ⟨hi, hhi⟩ : ∃ x, x = min rhi shi := ⟨_, rfl⟩
     rw [← hlo, ← hhi]
     have heq := HO.out.2.2
     simp only [← hlo, ← hhi] at heq
     have hoc : wc.ownsRow w2.heap.size 39 2 u5 out.length (rowOf out) := ownMove HO.out.1 (fun k _ => congrArg (·[k]?) HW.out.1)
     have hol : out.length < 8000000 := by
      have h := congrArg List.length heq
      have h2 := HR.out.2
      rw [List.length_append] at h
      omega
     have hlh : -9223372036854775808 ≤ lo ∧ lo ≤ 9223372036854775807 ∧ -9223372036854775808 ≤ hi ∧ hi ≤ 9223372036854775807 := by omega
     have HE := Lib.hid (And.intro heq hoc)
     clear heq hoc hlo hhi HO
     go_upto_if 40 with fail
     go_cut [5] (fun s5 wx => ∃ out', Aside0 (wx.ownsRow w2.heap.size 39 2 s5 out'.length (rowOf out') ∧ Below w2.heap.size w2 wx ∧ out' ++ (if rhi < shi then Cls.inter a (⟨slo, shi⟩ :: b) else Cls.inter (⟨rlo, rhi⟩ :: a) b) = R))
     case first =>
      by_cases hle : lo ≤ hi
      ·obtain ⟨v', W5, hrun, hown, hg, hat⟩ := own_range (X := wc.alloc (.cells #[.int .i64 lo, .int .i64 hi] 39)) (HE.out.2.alloc _) ⟨wc.heap.size, 0, none⟩ lo hi (by have := HW.out.2.size; simp; omega) hol (lk_cell (i := 0) (heap_alloc_new _ _) rfl) (lk_cell (i := 1) (heap_alloc_new _ _) rfl)
       have HRUN := Lib.hid hrun
       have HN := Lib.hid (And.intro hown (And.intro ((HW.out.2.alloc HW.out.2.size (.cells #[.int .i64 lo, .int .i64 hi] 39)).grown hg (by have := HW.out.2.size; simp; omega) (fun k hk => (ownLt HE.out.2 k hk).1)) (show out ++ [⟨lo, hi⟩] ++ (if rhi < shi then Cls.inter a (⟨slo, shi⟩ :: b) else Cls.inter (⟨rlo, rhi⟩ :: a) b) = R by have h := HE.out.1; rw [if_pos hle, ← List.append_assoc] at h; exact h)))
       clear hrun hown hg hat HE p0 p1 q0 q1
       go_wp2_with (at_builtin; refine Lib.wpList_append_run _ rfl _ _ _ _ rfl _ _ rfl rfl _ _ HRUN.out ?_)
       go_meet
       exact ⟨_, ⟨HN.out⟩⟩
      ·have HN := Lib.hid (And.intro HE.out.2 (And.intro HW.out.2 (show out ++ (if rhi < shi then Cls.inter a (⟨slo, shi⟩ :: b) else Cls.inter (⟨rlo, rhi⟩ :: a) b) = R by have h := HE.out.1; rw [if_neg hle, List.nil_append] at h; exact h)))
       clear HE p0 p1 q0 q1
       go_wp2_with fail
       go_meet
       exact ⟨_, ⟨HN.out⟩⟩
     case rest =>
      obtain ⟨out', HN⟩ := hcut
      clear HE hlh hol
      clear p0 p1 q0 q1 hg1' hg2'
      have p1 := (HN.out.2.1.cell (p := ⟨g1, _, none⟩) HP.out.1.1).trans HP.out.1.2
      have q1 := (HN.out.2.1.cell (p := ⟨g2, _, none⟩) HP.out.2.1).trans HP.out.2.2
      simp only [S64.f1] at p1 q1
      have hg1' := Nat.lt_of_lt_of_le HP.out.1.1 HN.out.2.1.size
      have hg2' := Nat.lt_of_lt_of_le HP.out.2.1 HN.out.2.1.size
      have hdd : a.length + 1 + (b.length + 1) = d := HD.out
      by_cases hlt : rhi < shi
      ·have heq2 := HN.out.2.2
       rw [if_pos hlt] at heq2
       have HQ := Lib.hid heq2
       clear heq2
       go_wp2
       repeat (go_quiet (fail); try go_wp2)
       ·obtain rfl : a = [] := List.eq_nil_of_length_eq_zero (by omega)
        go_roundg (0 + (b.length + 1))
        case measure => simp at hdd; omega
        case rel => exact ⟨_, ⟨[], ⟨slo, shi⟩ :: b, out', SlAt.nil _ _ _, HI.out.2.1, HN.out.1, pw_below_drewN HN.out.2.1 _, rfl, HI.out.2.2.2.2.2.1, HQ.out, rfl⟩, by simp⟩
       ·go_roundg (a.length + (b.length + 1))
        case measure => omega
        case rel => exact ⟨_, ⟨a, ⟨slo, shi⟩ :: b, out', HI.out.2.2.1, HI.out.2.1, HN.out.1, pw_below_drewN HN.out.2.1 _, HI.out.2.2.2.2.2.2.1, HI.out.2.2.2.2.2.1, HQ.out, rfl⟩, by simp⟩
      ·have heq2 := HN.out.2.2
       rw [if_neg hlt] at heq2
       have HQ := Lib.hid heq2
       clear heq2
       go_wp2
       repeat (go_quiet (fail); try go_wp2)
       ·obtain rfl : b = [] := List.eq_nil_of_length_eq_zero (by omega)
        go_roundg (a.length + 1)
        case measure => simp at hdd; omega
        case rel => exact ⟨_, ⟨⟨rlo, rhi⟩ :: a, [], out', HI.out.1, SlAt.nil _ _ _, HN.out.1, pw_below_drewN HN.out.2.1 _, HI.out.2.2.2.2.1, rfl, HQ.out, rfl⟩, by simp⟩
       ·go_roundg (a.length + 1 + b.length)
        case measure => omega
        case rel => exact ⟨_, ⟨⟨rlo, rhi⟩ :: a, b, out', HI.out.1, HI.out.2.2.2.1, HN.out.1, pw_below_drewN HN.out.2.1 _, HI.out.2.2.2.2.1, HI.out.2.2.2.2.2.2.2, HQ.out, rfl⟩, by simp⟩
end Go.Proofs.YtamhkdlcoghdbaaGreatDoor.PCls
