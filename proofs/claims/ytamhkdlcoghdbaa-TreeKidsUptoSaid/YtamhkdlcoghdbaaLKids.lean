/- TreeKids: the law. -/
import Derived.Test.YtamhkdlcoghdbaaTEx
namespace Go.Proofs.Ytamhkdlcoghdbaa.PCls
open Go.RowKit Go.Shelf Go.Proofs.YtamhkdlcoghdbaaW.PrintWords Go.Proofs.YtamhkdlcoghdbaaW.PrintLast Go.Proofs.YtamhkdlcoghdbaaW.PrintMore
set_option linter.unusedVariables false
set_option linter.unusedSimpArgs false
attribute [local go_sem] Oper.semAt_some

/-- node, mode boxed: what both laws here hold on to -/
structure KidSt (w wr : World) (cs : Array Value) (chars fold : Bool) : Prop where
  bel : Below w.heap.size w wr
  node : wr.heap[w.heap.size]? = some (.cells cs 44 (0, 0))
  mode : wr.heap[w.heap.size + 1]? = some (.cells #[.bool chars, .bool fold] 46 (0, 0))
  sz : w.heap.size + 2 ≤ wr.heap.size
theorem KidSt.start (w : World) (cs : Array Value) (chars fold : Bool) : KidSt w ((w.alloc (.cells cs 44)).alloc (.cells #[.bool chars, .bool fold] 46)) cs chars fold := by
  refine ⟨((Below.refl _ w).alloc (Nat.le_refl _) _).alloc (by simp) _, (Below.heap_alloc _ _ _ (by simp)).trans (World.alloc_heap_new w _), ?_, by simp⟩
  have := World.alloc_heap_new (w.alloc (.cells cs 44)) (.cells #[.bool chars, .bool fold] 46)
  rw [World.size_alloc] at this
  exact this
theorem KidSt.below {w A B : World} {cs : Array Value} {chars fold : Bool} (h : KidSt w A cs chars fold) (hb : Below A.heap.size A B) : KidSt w B cs chars fold :=
  ⟨h.bel.trans (hb.mono h.bel.size), (hb.block _ (by have := h.sz; omega)).trans h.node, (hb.block _ (by have := h.sz; omega)).trans h.mode, Nat.le_trans h.sz hb.size⟩

set_option maxHeartbeats 8000000 in
set_option maxRecDepth 100000 in
theorem kids_calls (chars fold : Bool) : ∀ (N : Nat) (t : NT) (cs : List Value) (w : World), t.nodes ≤ N → NIn w (· < w.heap.size) t cs → t.nodes < 274877906944 → rightT t chars fold = 0 → groupsIn (enters (Step.top t).evs) = 0 →
    Calls Try.prog 54 #[.agg cs.toArray, .agg #[.bool chars, .bool fold]] w fun e w' => e = .returned (.bool true) ∧ Below w.heap.size w w' := by
  intro N
  induction N with
  | zero => intro t cs w h; have := t.nodes_pos; omega
  | succ N ih =>
    intro t cs w hN hT hnn hR hG
    have hT0 := hT
    cases hT with
    | mk k m lo hi r kids ar ak cr ck csk q1 q2 q3 q4 q5 q6 q7 q8 q9 =>
      have HT := Lib.hid hT0
      have HN := Lib.hid hN
      have HNN := Lib.hid hnn
      have HKR := Lib.hid (fun c hc => kid_right chars fold (.mk k m lo hi r kids) c hc hR hG)
      have HI := Lib.hid ih
      have HST := Lib.hid (KidSt.start w #[.int .i64 k, .int .i64 m, .int .i64 lo, .int .i64 hi, .slice ar r.length cr, .slice ak kids.length ck] chars fold)
      have hkl : kids.length < 1099511627776 := q7
      clear hT0 hN hnn hR hG ih q1 q2 q3 q4 q5 q6 q7 q8 q9
      show Calls Try.prog 54 #[.agg #[.int .i64 k, .int .i64 m, .int .i64 lo, .int .i64 hi, .slice ar r.length cr, .slice ak kids.length ck], .agg #[.bool chars, .bool fold]] w _
      go_enter Try.func54, Try.ntmps54
      go_wp2_with fail
      go_loopg [5] kids.length (fun gg s5 wr => ∃ j : Nat, s5 = .int .i64 j ∧ j ≤ kids.length ∧ kids.length - j ≤ gg ∧ Aside0 (KidSt w wr #[.int .i64 k, .int .i64 m, .int .i64 lo, .int .i64 hi, .slice ar r.length cr, .slice ak kids.length ck] chars fold))
      case atStart => exact ⟨0, rfl, by omega, by omega, ⟨HST.out⟩⟩
      case round =>
        obtain ⟨j, rfl, hj, hgg, HS⟩ := hrel
        have c5 := cell_heap (i := 5) HS.out.node rfl
        by_cases hlt : j < kids.length
        · obtain ⟨t, ht⟩ : ∃ t, kids[j]? = some t := ⟨_, List.getElem?_eq_getElem hlt⟩
          obtain ⟨ad, kcs, rfl, hP, hNk, hck⟩ := HT.out.kid ht
          obtain ⟨hRk, hGk⟩ := HKR.out t (List.mem_of_getElem? ht)
          have hnk : t.nodes ≤ NT.nodesL kids := NT.nodes_kid (List.mem_of_getElem? ht)
          have hlt' : (j : Int) < (kids.length : Int) := by omega
          have HP := Lib.hid hP
          have HNK := Lib.hid hNk
          have HCK := Lib.hid hck
          have HRK := Lib.hid hRk
          have HGK := Lib.hid hGk
          have HNL := Lib.hid hnk
          clear hP hNk hck hRk hGk hnk ht
          obtain ⟨tk, tm, tlo, thi, tr, tkids⟩ := t
          obtain ⟨tar, tak, tcr, tck, rfl⟩ := NIn.shape HNK.out
          go_upto_region 4 with (fail)
          clear c5
          have HSZ := Lib.hid (show w.heap.size + 2 ≤ wr.heap.size from HS.out.sz)
          have HND := Lib.hid HS.out.node
          have HMD := Lib.hid HS.out.mode
          have HPL := Lib.hid (show ad.block < wr.heap.size by have := HP.out; have := HS.out.sz; omega)
          have HQ := Lib.hid (show ∀ (i : Nat) (u : Value), ([.int .i64 tk, .int .i64 tm, .int .i64 tlo, .int .i64 thi, .slice tar tr.length tcr, .slice tak tkids.length tck] : List Value)[i]? = some u → wr.cell? (ad.add (j * 6 + i)) = some u from fun i u hu => (World.cell?_of_block (w := w) (a := ad.add (j * 6 + i)) (by rw [add_block]; exact HS.out.bel.block _ HP.out)).trans (HCK.out i u hu))
          have HBa := Lib.hid (show Below wr.heap.size wr wr.drew from (Below.refl _ wr).drew)
          refine start_ (n := 8) (S := fun w' => Below wr.heap.size wr w') (ds := []) #[false, false, false, false, false, false, false, false] (by kernel_rfl) rfl rfl HBa.out (fun hHeld => ?_)
          refine with_self (fun HT_ => ?_)
          generalize wr.drew = w_d at HBa hHeld ⊢
          refine pure_ (i := 0) (N := some 14) (v := ?_) (a' := ?_) #[true, false, false, false, false, false, false, false] rfl rfl (any_of HT_.out (by kernel_rfl)) (fun _ _ _ h => h) (Or.inl ⟨by rfl, ?_⟩) ?_ ?_
          rotate_left
          · intro w'
            go_simp
            with_reducible rfl
          rotate_left
          · simp only [Act.put, List.setIfInBounds_toArray, List.set_cons_zero, List.set_cons_succ, i64_w, i32_w]
            rfl
          refine take_ (i := 1) (N := some 15) (v := ?_) (a' := ?_) #[true, true, false, false, false, false, false, false] rfl rfl (take_of HT_.out (by kernel_rfl)) (fun _ _ _ h => h) (Or.inl ⟨by rfl, ?_⟩) hHeld ?_ ?_
          rotate_left
          · intro w' hS
            have c5 := cell_heap (i := 5) ((hS.block _ (by have := HSZ.out; omega)).trans HND.out) rfl
            clear hS
            go_simp
            with_reducible rfl
          rotate_left
          · simp only [Act.put, List.setIfInBounds_toArray, List.set_cons_zero, List.set_cons_succ, i64_w, i32_w]
            rfl
          refine pure_ (i := 2) (N := some 16) (v := ?_) (a' := ?_) #[true, true, true, false, false, false, false, false] rfl rfl (any_of HT_.out (by kernel_rfl)) (fun _ _ _ h => h) (Or.inl ⟨by rfl, ?_⟩) ?_ ?_
          rotate_left
          · intro w'
            go_simp
            with_reducible rfl
          rotate_left
          · simp only [Act.put, List.setIfInBounds_toArray, List.set_cons_zero, List.set_cons_succ, i64_w, i32_w]
            rfl
          refine pure_ (i := 3) (N := some 17) (v := ?_) (a' := ?_) #[true, true, true, true, false, false, false, false] rfl rfl (any_of HT_.out (by kernel_rfl)) (fun _ _ _ h => h) (Or.inl ⟨by rfl, ?_⟩) ?_ ?_
          rotate_left
          · intro w'
            go_simp
            with_reducible rfl
          rotate_left
          · simp only [Act.put, List.setIfInBounds_toArray, List.set_cons_zero, List.set_cons_succ, i64_w, i32_w]
            rfl
          refine take_ (i := 4) (N := some 18) (v := ?_) (a' := ?_) #[true, true, true, true, true, false, false, false] rfl rfl (take_of HT_.out (by kernel_rfl)) (fun _ _ _ h => h) (Or.inl ⟨by rfl, ?_⟩) hHeld ?_ ?_
          rotate_left
          · intro w' hS
            have hq := fun (i : Nat) (u : Value) (hu : ([.int .i64 tk, .int .i64 tm, .int .i64 tlo, .int .i64 thi, .slice tar tr.length tcr, .slice tak tkids.length tck] : List Value)[i]? = some u) => (show w'.cell? (ad.add (j * 6 + i)) = some u from (World.cell?_of_block (w := wr) (a := ad.add (j * 6 + i)) (by rw [add_block]; exact hS.block _ HPL.out)).trans (HQ.out i u hu))
            have x0 := hq 0 _ rfl
            rw [Nat.add_zero] at x0
            have x1 := cell_at hq 1 (by decide) rfl
            have x2 := cell_at hq 2 (by decide) rfl
            have x3 := cell_at hq 3 (by decide) rfl
            have x4 := cell_at hq 4 (by decide) rfl
            have x5 := cell_at hq 5 (by decide) rfl
            clear hq
            clear hS
            go_simp
            with_reducible rfl
          rotate_left
          · simp only [Act.put, List.setIfInBounds_toArray, List.set_cons_zero, List.set_cons_succ, i64_w, i32_w]
            rfl
          refine take_ (i := 5) (N := some 19) (v := ?_) (a' := ?_) #[true, true, true, true, true, true, false, false] rfl rfl (take_of HT_.out (by kernel_rfl)) (fun _ _ _ h => h) (Or.inl ⟨by rfl, ?_⟩) hHeld ?_ ?_
          rotate_left
          · intro w' hS
            have m0 := cell_heap (i := 0) ((hS.block _ (by have := HSZ.out; omega)).trans HMD.out) rfl
            have m1 := cell_heap (i := 1) ((hS.block _ (by have := HSZ.out; omega)).trans HMD.out) rfl
            clear hS
            go_simp
            with_reducible rfl
          rotate_left
          · simp only [Act.put, List.setIfInBounds_toArray, List.set_cons_zero, List.set_cons_succ, i64_w, i32_w]
            rfl
          refine one_ (i := 6) (N := some 20) #[true, true, true, true, true, true, true, false] rfl rfl (one_of HT_.out (by kernel_rfl)) (by decide) (fun K hK => ?_)
          refine goes_ Try.func49 (by kernel_rfl) rfl #[.agg #[.int .i64 tk, .int .i64 tm, .int .i64 tlo, .int .i64 thi, .slice tar tr.length tcr, .slice tak tkids.length tck], .agg #[.bool chars, .bool fold]] (by rfl) rfl rfl (by (try simp only [List.map_toArray, List.map_cons, List.map_nil]); first | done | rfl) ?_
          have hr := right_calls (.mk tk tm tlo thi tr tkids) _ chars fold w_d ((HNK.out.move (fun b hb => (HBa.out.block b (Nat.lt_of_lt_of_le hb (Nat.le_trans HS.out.bel.size (Nat.le_refl _)))).trans (HS.out.bel.block b hb))).mono (fun b hb => Nat.lt_of_lt_of_le hb (Nat.le_trans HS.out.bel.size HBa.out.size))) (by have h1 := HNN.out; have h2 := HNL.out; simp only [NT.nodes] at h1 h2 ⊢; omega)
          rw [HRK.out] at hr
          refine (hr).mono ?_
          rintro e w7 ⟨rfl, hB⟩
          have HB_w7 := Lib.hid (HBa.out.trans (hB.mono HBa.out.size))
          clear hB hr
          refine ⟨_, rfl, ?_⟩
          clear hHeld
          refine hK.out _ _ HB_w7.out (fun hHeld => ?_)
          clear hK K
          refine norm_ (a' := ?_) ?_ ?_
          rotate_left
          · show Act.put _ (some 20) _ = _
            simp only [Act.put, List.setIfInBounds_toArray, List.set_cons_zero, List.set_cons_succ, i64_w, i32_w]
            rfl
          refine pure_ (i := 7) (N := some 21) (v := ?_) (a' := ?_) #[true, true, true, true, true, true, true, true] rfl rfl (any_of HT_.out (by kernel_rfl)) (fun _ _ _ h => h) (Or.inl ⟨by rfl, ?_⟩) ?_ ?_
          rotate_left
          · intro w'
            go_simp
            with_reducible rfl
          rotate_left
          · simp only [Act.put, List.setIfInBounds_toArray, List.set_cons_zero, List.set_cons_succ, i64_w, i32_w]
            rfl
          refine done_ (done_of HT_.out (by kernel_rfl)) ?_
          clear HT_ hHeld
          have HS7 := Lib.hid (HS.out.below HB_w7.out)
          clear HSZ HND HMD HPL HQ
          have c5 := cell_heap (i := 5) HS7.out.node rfl
          go_upto_region 6 with (fail)
          clear c5
          have HSZ := Lib.hid (show w.heap.size + 2 ≤ w7.heap.size from HS7.out.sz)
          have HND := Lib.hid HS7.out.node
          have HMD := Lib.hid HS7.out.mode
          have HPL := Lib.hid (show ad.block < w7.heap.size by have := HP.out; have := HS7.out.sz; omega)
          have HQ := Lib.hid (show ∀ (i : Nat) (u : Value), ([.int .i64 tk, .int .i64 tm, .int .i64 tlo, .int .i64 thi, .slice tar tr.length tcr, .slice tak tkids.length tck] : List Value)[i]? = some u → w7.cell? (ad.add (j * 6 + i)) = some u from fun i u hu => (World.cell?_of_block (w := w) (a := ad.add (j * 6 + i)) (by rw [add_block]; exact HS7.out.bel.block _ HP.out)).trans (HCK.out i u hu))
          have HBb := Lib.hid (show Below w7.heap.size w7 w7.drew from (Below.refl _ w7).drew)
          refine start_ (n := 8) (S := fun w' => Below w7.heap.size w7 w') (ds := []) #[false, false, false, false, false, false, false, false] (by kernel_rfl) rfl rfl HBb.out (fun hHeld => ?_)
          refine with_self (fun HT_ => ?_)
          generalize w7.drew = w_e at HBb hHeld ⊢
          refine pure_ (i := 0) (N := some 22) (v := ?_) (a' := ?_) #[true, false, false, false, false, false, false, false] rfl rfl (any_of HT_.out (by kernel_rfl)) (fun _ _ _ h => h) (Or.inl ⟨by rfl, ?_⟩) ?_ ?_
          rotate_left
          · intro w'
            go_simp
            with_reducible rfl
          rotate_left
          · simp only [Act.put, List.setIfInBounds_toArray, List.set_cons_zero, List.set_cons_succ, i64_w, i32_w]
            rfl
          refine take_ (i := 1) (N := some 23) (v := ?_) (a' := ?_) #[true, true, false, false, false, false, false, false] rfl rfl (take_of HT_.out (by kernel_rfl)) (fun _ _ _ h => h) (Or.inl ⟨by rfl, ?_⟩) hHeld ?_ ?_
          rotate_left
          · intro w' hS
            have c5 := cell_heap (i := 5) ((hS.block _ (by have := HSZ.out; omega)).trans HND.out) rfl
            clear hS
            go_simp
            with_reducible rfl
          rotate_left
          · simp only [Act.put, List.setIfInBounds_toArray, List.set_cons_zero, List.set_cons_succ, i64_w, i32_w]
            rfl
          refine pure_ (i := 2) (N := some 24) (v := ?_) (a' := ?_) #[true, true, true, false, false, false, false, false] rfl rfl (any_of HT_.out (by kernel_rfl)) (fun _ _ _ h => h) (Or.inl ⟨by rfl, ?_⟩) ?_ ?_
          rotate_left
          · intro w'
            go_simp
            with_reducible rfl
          rotate_left
          · simp only [Act.put, List.setIfInBounds_toArray, List.set_cons_zero, List.set_cons_succ, i64_w, i32_w]
            rfl
          refine pure_ (i := 3) (N := some 25) (v := ?_) (a' := ?_) #[true, true, true, true, false, false, false, false] rfl rfl (any_of HT_.out (by kernel_rfl)) (fun _ _ _ h => h) (Or.inl ⟨by rfl, ?_⟩) ?_ ?_
          rotate_left
          · intro w'
            go_simp
            with_reducible rfl
          rotate_left
          · simp only [Act.put, List.setIfInBounds_toArray, List.set_cons_zero, List.set_cons_succ, i64_w, i32_w]
            rfl
          refine take_ (i := 4) (N := some 26) (v := ?_) (a' := ?_) #[true, true, true, true, true, false, false, false] rfl rfl (take_of HT_.out (by kernel_rfl)) (fun _ _ _ h => h) (Or.inl ⟨by rfl, ?_⟩) hHeld ?_ ?_
          rotate_left
          · intro w' hS
            have hq := fun (i : Nat) (u : Value) (hu : ([.int .i64 tk, .int .i64 tm, .int .i64 tlo, .int .i64 thi, .slice tar tr.length tcr, .slice tak tkids.length tck] : List Value)[i]? = some u) => (show w'.cell? (ad.add (j * 6 + i)) = some u from (World.cell?_of_block (w := w7) (a := ad.add (j * 6 + i)) (by rw [add_block]; exact hS.block _ HPL.out)).trans (HQ.out i u hu))
            have x0 := hq 0 _ rfl
            rw [Nat.add_zero] at x0
            have x1 := cell_at hq 1 (by decide) rfl
            have x2 := cell_at hq 2 (by decide) rfl
            have x3 := cell_at hq 3 (by decide) rfl
            have x4 := cell_at hq 4 (by decide) rfl
            have x5 := cell_at hq 5 (by decide) rfl
            clear hq
            clear hS
            go_simp
            with_reducible rfl
          rotate_left
          · simp only [Act.put, List.setIfInBounds_toArray, List.set_cons_zero, List.set_cons_succ, i64_w, i32_w]
            rfl
          refine take_ (i := 5) (N := some 27) (v := ?_) (a' := ?_) #[true, true, true, true, true, true, false, false] rfl rfl (take_of HT_.out (by kernel_rfl)) (fun _ _ _ h => h) (Or.inl ⟨by rfl, ?_⟩) hHeld ?_ ?_
          rotate_left
          · intro w' hS
            have m0 := cell_heap (i := 0) ((hS.block _ (by have := HSZ.out; omega)).trans HMD.out) rfl
            have m1 := cell_heap (i := 1) ((hS.block _ (by have := HSZ.out; omega)).trans HMD.out) rfl
            clear hS
            go_simp
            with_reducible rfl
          rotate_left
          · simp only [Act.put, List.setIfInBounds_toArray, List.set_cons_zero, List.set_cons_succ, i64_w, i32_w]
            rfl
          refine one_ (i := 6) (N := some 28) #[true, true, true, true, true, true, true, false] rfl rfl (one_of HT_.out (by kernel_rfl)) (by decide) (fun K hK => ?_)
          refine goes_ Try.func54 (by kernel_rfl) rfl #[.agg #[.int .i64 tk, .int .i64 tm, .int .i64 tlo, .int .i64 thi, .slice tar tr.length tcr, .slice tak tkids.length tck], .agg #[.bool chars, .bool fold]] (by rfl) rfl rfl (by (try simp only [List.map_toArray, List.map_cons, List.map_nil]); first | done | rfl) ?_
          refine (HI.out (.mk tk tm tlo thi tr tkids) _ w_e (by have h1 := HN.out; have h2 := HNL.out; simp only [NT.nodes] at h1 h2 ⊢; omega) ((HNK.out.move (fun b hb => (HBb.out.block b (Nat.lt_of_lt_of_le hb HS7.out.bel.size)).trans (HS7.out.bel.block b hb))).mono (fun b hb => Nat.lt_of_lt_of_le hb (Nat.le_trans HS7.out.bel.size HBb.out.size))) (by have h1 := HNN.out; have h2 := HNL.out; simp only [NT.nodes] at h1 h2 ⊢; omega) HRK.out HGK.out).mono ?_
          rintro e w8 ⟨rfl, hB⟩
          have HB_w8 := Lib.hid (HBb.out.trans (hB.mono HBb.out.size))
          clear hB
          refine ⟨_, rfl, ?_⟩
          clear hHeld
          refine hK.out _ _ HB_w8.out (fun hHeld => ?_)
          clear hK K
          refine norm_ (a' := ?_) ?_ ?_
          rotate_left
          · show Act.put _ (some 28) _ = _
            simp only [Act.put, List.setIfInBounds_toArray, List.set_cons_zero, List.set_cons_succ, i64_w, i32_w]
            rfl
          refine pure_ (i := 7) (N := some 6) (v := ?_) (a' := ?_) #[true, true, true, true, true, true, true, true] rfl rfl (any_of HT_.out (by kernel_rfl)) (fun _ _ _ h => h) (Or.inl ⟨by rfl, ?_⟩) ?_ ?_
          rotate_left
          · intro w'
            go_simp
            with_reducible rfl
          rotate_left
          · simp only [Act.put, List.setIfInBounds_toArray, List.set_cons_zero, List.set_cons_succ, i64_w, i32_w]
            rfl
          refine done_ (done_of HT_.out (by kernel_rfl)) ?_
          clear HT_ hHeld
          have HS8 := Lib.hid (HS7.out.below HB_w8.out)
          clear HSZ HND HMD HPL HQ
          go_wp2_with fail
          go_roundg (kids.length - (j + 1))
          case measure => omega
          case rel => exact ⟨j + 1, congrArg (Value.int .i64) (by first | (push_cast; rfl) | (rw [w64_lit _ (by omega) (by omega)]; push_cast; rfl)), by omega, Nat.le_refl _, ⟨HS8.out⟩⟩
        · obtain rfl : j = kids.length := by omega
          have hlt' : ¬ (kids.length : Int) < (kids.length : Int) := by omega
          go_wp2_with fail
          go_ret
          exact ⟨rfl, HS.out.bel⟩

set_option maxHeartbeats 4000000 in
set_option maxRecDepth 100000 in
theorem kids_wrong (k m lo hi : Int) (r : List S64) (kids : List NT) (ar ak : Option Addr) (cr ck : Nat) (chars fold : Bool) (w : World) (hT : NIn w (· < w.heap.size) (.mk k m lo hi r kids) [.int .i64 k, .int .i64 m, .int .i64 lo, .int .i64 hi, .slice ar r.length cr, .slice ak kids.length ck]) (hn : (NT.mk k m lo hi r kids).nodes < 274877906944) (hR : rightT (.mk k m lo hi r kids) chars fold ≠ 0) :
    Calls Try.prog 11 #[.agg #[.int .i64 k, .int .i64 m, .int .i64 lo, .int .i64 hi, .slice ar r.length cr, .slice ak kids.length ck], .agg #[.bool chars, .bool fold]] w fun e w' => e = .returned (.bool true) ∧ Below w.heap.size w w' := by
  have HT := Lib.hid hT
  have HN := Lib.hid hn
  have HR := Lib.hid hR
  clear hR
  clear hT hn
  obtain ⟨W2, hW2⟩ : ∃ W2, W2 = (w.alloc (.cells #[.int .i64 k, .int .i64 m, .int .i64 lo, .int .i64 hi, .slice ar r.length cr, .slice ak kids.length ck] 44)).alloc (.cells #[.bool chars, .bool fold] 46) := ⟨_, rfl⟩
  have HST := Lib.hid (show KidSt w W2 #[.int .i64 k, .int .i64 m, .int .i64 lo, .int .i64 hi, .slice ar r.length cr, .slice ak kids.length ck] chars fold by rw [hW2]; exact KidSt.start w _ chars fold)
  have HW2 := Lib.hid hW2
  clear hW2
  go_enter Try.func11, Try.ntmps11
  go_wp2_with fail
  rw [← HW2.out]
  refine (examples_calls _).mono ?_
  rintro e w4 ⟨rfl, hb4⟩
  have HS4 := Lib.hid (HST.out.below hb4)
  clear hb4
  have n0 := cell_heap (i := 0) HS4.out.node rfl
  have n1 := cell_heap (i := 1) HS4.out.node rfl
  have n2 := cell_heap (i := 2) HS4.out.node rfl
  have n3 := cell_heap (i := 3) HS4.out.node rfl
  have n4 := cell_heap (i := 4) HS4.out.node rfl
  have n5 := cell_heap (i := 5) HS4.out.node rfl
  have m0 := cell_heap (i := 0) HS4.out.mode rfl
  have m1 := cell_heap (i := 1) HS4.out.mode rfl
  have hr := right_calls (.mk k m lo hi r kids) _ chars fold w4 ((HT.out.move (fun b hb => HS4.out.bel.block b hb)).mono (fun b hb => Nat.lt_of_lt_of_le hb HS4.out.bel.size)) HN.out
  obtain ⟨R, hR⟩ : ∃ R, R = rightT (.mk k m lo hi r kids) chars fold := ⟨_, rfl⟩
  rw [← hR] at hr
  have HR1 := Lib.hid (show (R != 0) = true by rw [bne_iff_ne, hR]; exact HR.out)
  have HR2 := Lib.hid (show (R == 0) = false by rw [beq_eq_false_iff_ne, hR]; exact HR.out)
  clear hR
  have HRC := Lib.hid hr
  clear hr
  go_wp2_with fail
  refine HRC.out.mono ?_
  rintro e w5 ⟨rfl, hb5⟩
  have HS5 := Lib.hid (HS4.out.below hb5)
  clear hb5 HRC n0 n1 n2 n3 n4 n5 m0 m1
  have hR1 := HR1.out
  have hR2 := HR2.out
  go_wp2_with fail
  go_ret
  exact ⟨rfl, HS5.out.bel⟩

set_option maxHeartbeats 4000000 in
set_option maxRecDepth 100000 in
theorem kids_some (k m lo hi : Int) (r : List S64) (kids : List NT) (ar ak : Option Addr) (cr ck : Nat) (chars fold : Bool) (w : World) (hT : NIn w (· < w.heap.size) (.mk k m lo hi r kids) [.int .i64 k, .int .i64 m, .int .i64 lo, .int .i64 hi, .slice ar r.length cr, .slice ak kids.length ck]) (hn : (NT.mk k m lo hi r kids).nodes < 274877906944) (hR : rightT (.mk k m lo hi r kids) chars fold = 0) (hG : 0 < groupsT (.mk k m lo hi r kids)) :
    Calls Try.prog 11 #[.agg #[.int .i64 k, .int .i64 m, .int .i64 lo, .int .i64 hi, .slice ar r.length cr, .slice ak kids.length ck], .agg #[.bool chars, .bool fold]] w fun e w' => e = .returned (.bool true) ∧ Below w.heap.size w w' := by
  have HT := Lib.hid hT
  have HN := Lib.hid hn
  have HR := Lib.hid hR
  have HG := Lib.hid hG
  clear hR hG
  clear hT hn
  obtain ⟨W2, hW2⟩ : ∃ W2, W2 = (w.alloc (.cells #[.int .i64 k, .int .i64 m, .int .i64 lo, .int .i64 hi, .slice ar r.length cr, .slice ak kids.length ck] 44)).alloc (.cells #[.bool chars, .bool fold] 46) := ⟨_, rfl⟩
  have HST := Lib.hid (show KidSt w W2 #[.int .i64 k, .int .i64 m, .int .i64 lo, .int .i64 hi, .slice ar r.length cr, .slice ak kids.length ck] chars fold by rw [hW2]; exact KidSt.start w _ chars fold)
  have HW2 := Lib.hid hW2
  clear hW2
  go_enter Try.func11, Try.ntmps11
  go_wp2_with fail
  rw [← HW2.out]
  refine (examples_calls _).mono ?_
  rintro e w4 ⟨rfl, hb4⟩
  have HS4 := Lib.hid (HST.out.below hb4)
  clear hb4
  have n0 := cell_heap (i := 0) HS4.out.node rfl
  have n1 := cell_heap (i := 1) HS4.out.node rfl
  have n2 := cell_heap (i := 2) HS4.out.node rfl
  have n3 := cell_heap (i := 3) HS4.out.node rfl
  have n4 := cell_heap (i := 4) HS4.out.node rfl
  have n5 := cell_heap (i := 5) HS4.out.node rfl
  have m0 := cell_heap (i := 0) HS4.out.mode rfl
  have m1 := cell_heap (i := 1) HS4.out.mode rfl
  have hr := right_calls (.mk k m lo hi r kids) _ chars fold w4 ((HT.out.move (fun b hb => HS4.out.bel.block b hb)).mono (fun b hb => Nat.lt_of_lt_of_le hb HS4.out.bel.size)) HN.out
  rw [HR.out] at hr
  have HRC := Lib.hid hr
  clear hr
  go_wp2_with fail
  refine HRC.out.mono ?_
  rintro e w5 ⟨rfl, hb5⟩
  have HS5 := Lib.hid (HS4.out.below hb5)
  clear hb5 HRC n0 n1 n2 n3 n4 n5 m0 m1
  have n0 := cell_heap (i := 0) HS5.out.node rfl
  have n1 := cell_heap (i := 1) HS5.out.node rfl
  have n2 := cell_heap (i := 2) HS5.out.node rfl
  have n3 := cell_heap (i := 3) HS5.out.node rfl
  have n4 := cell_heap (i := 4) HS5.out.node rfl
  have n5 := cell_heap (i := 5) HS5.out.node rfl
  have m0 := cell_heap (i := 0) HS5.out.mode rfl
  have m1 := cell_heap (i := 1) HS5.out.mode rfl
  have hg := groups_calls (.mk k m lo hi r kids) _ w5 ((HT.out.move (fun b hb => HS5.out.bel.block b hb)).mono (fun b hb => Nat.lt_of_lt_of_le hb HS5.out.bel.size)) (by have := HN.out; omega)
  obtain ⟨G, hG⟩ : ∃ G, G = groupsT (.mk k m lo hi r kids) := ⟨_, rfl⟩
  rw [← hG] at hg
  have HGP := Lib.hid (show decide (0 < G) = true by rw [hG]; exact decide_eq_true HG.out)
  have HGQ := Lib.hid (show (0 : Int) < G by rw [hG]; exact HG.out)
  clear hG
  have HGC := Lib.hid hg
  clear hg
  go_wp2_with fail
  refine HGC.out.mono ?_
  rintro e w6 ⟨rfl, hb6⟩
  have HS6 := Lib.hid (HS5.out.below hb6)
  clear hb6 HGC n0 n1 n2 n3 n4 n5 m0 m1
  have hG1 := HGP.out
  have hG2 := HGQ.out
  go_wp2_with fail
  go_ret
  exact ⟨rfl, HS6.out.bel⟩

set_option maxHeartbeats 4000000 in
set_option maxRecDepth 100000 in
theorem kids_none (k m lo hi : Int) (r : List S64) (kids : List NT) (ar ak : Option Addr) (cr ck : Nat) (chars fold : Bool) (w : World) (hT : NIn w (· < w.heap.size) (.mk k m lo hi r kids) [.int .i64 k, .int .i64 m, .int .i64 lo, .int .i64 hi, .slice ar r.length cr, .slice ak kids.length ck]) (hn : (NT.mk k m lo hi r kids).nodes < 274877906944) (hR : rightT (.mk k m lo hi r kids) chars fold = 0) (hG : groupsT (.mk k m lo hi r kids) = 0) (hG2 : groupsIn (enters (Step.top (.mk k m lo hi r kids)).evs) = 0) :
    Calls Try.prog 11 #[.agg #[.int .i64 k, .int .i64 m, .int .i64 lo, .int .i64 hi, .slice ar r.length cr, .slice ak kids.length ck], .agg #[.bool chars, .bool fold]] w fun e w' => e = .returned (.bool true) ∧ Below w.heap.size w w' := by
  have HT := Lib.hid hT
  have HN := Lib.hid hn
  have HR := Lib.hid hR
  have HG := Lib.hid hG
  have HG2 := Lib.hid hG2
  clear hR hG hG2
  clear hT hn
  obtain ⟨W2, hW2⟩ : ∃ W2, W2 = (w.alloc (.cells #[.int .i64 k, .int .i64 m, .int .i64 lo, .int .i64 hi, .slice ar r.length cr, .slice ak kids.length ck] 44)).alloc (.cells #[.bool chars, .bool fold] 46) := ⟨_, rfl⟩
  have HST := Lib.hid (show KidSt w W2 #[.int .i64 k, .int .i64 m, .int .i64 lo, .int .i64 hi, .slice ar r.length cr, .slice ak kids.length ck] chars fold by rw [hW2]; exact KidSt.start w _ chars fold)
  have HW2 := Lib.hid hW2
  clear hW2
  go_enter Try.func11, Try.ntmps11
  go_wp2_with fail
  rw [← HW2.out]
  refine (examples_calls _).mono ?_
  rintro e w4 ⟨rfl, hb4⟩
  have HS4 := Lib.hid (HST.out.below hb4)
  clear hb4
  have n0 := cell_heap (i := 0) HS4.out.node rfl
  have n1 := cell_heap (i := 1) HS4.out.node rfl
  have n2 := cell_heap (i := 2) HS4.out.node rfl
  have n3 := cell_heap (i := 3) HS4.out.node rfl
  have n4 := cell_heap (i := 4) HS4.out.node rfl
  have n5 := cell_heap (i := 5) HS4.out.node rfl
  have m0 := cell_heap (i := 0) HS4.out.mode rfl
  have m1 := cell_heap (i := 1) HS4.out.mode rfl
  have hr := right_calls (.mk k m lo hi r kids) _ chars fold w4 ((HT.out.move (fun b hb => HS4.out.bel.block b hb)).mono (fun b hb => Nat.lt_of_lt_of_le hb HS4.out.bel.size)) HN.out
  rw [HR.out] at hr
  have HRC := Lib.hid hr
  clear hr
  go_wp2_with fail
  refine HRC.out.mono ?_
  rintro e w5 ⟨rfl, hb5⟩
  have HS5 := Lib.hid (HS4.out.below hb5)
  clear hb5 HRC n0 n1 n2 n3 n4 n5 m0 m1
  have n0 := cell_heap (i := 0) HS5.out.node rfl
  have n1 := cell_heap (i := 1) HS5.out.node rfl
  have n2 := cell_heap (i := 2) HS5.out.node rfl
  have n3 := cell_heap (i := 3) HS5.out.node rfl
  have n4 := cell_heap (i := 4) HS5.out.node rfl
  have n5 := cell_heap (i := 5) HS5.out.node rfl
  have m0 := cell_heap (i := 0) HS5.out.mode rfl
  have m1 := cell_heap (i := 1) HS5.out.mode rfl
  have hg := groups_calls (.mk k m lo hi r kids) _ w5 ((HT.out.move (fun b hb => HS5.out.bel.block b hb)).mono (fun b hb => Nat.lt_of_lt_of_le hb HS5.out.bel.size)) (by have := HN.out; omega)
  obtain ⟨G, hG⟩ : ∃ G, G = groupsT (.mk k m lo hi r kids) := ⟨_, rfl⟩
  rw [← hG] at hg
  obtain rfl : G = 0 := by rw [hG]; exact HG.out
  clear hG
  have HGC := Lib.hid hg
  clear hg
  go_wp2_with fail
  refine HGC.out.mono ?_
  rintro e w6 ⟨rfl, hb6⟩
  have HS6 := Lib.hid (HS5.out.below hb6)
  clear hb6 HGC n0 n1 n2 n3 n4 n5 m0 m1
  have n0 := cell_heap (i := 0) HS6.out.node rfl
  have n1 := cell_heap (i := 1) HS6.out.node rfl
  have n2 := cell_heap (i := 2) HS6.out.node rfl
  have n3 := cell_heap (i := 3) HS6.out.node rfl
  have n4 := cell_heap (i := 4) HS6.out.node rfl
  have n5 := cell_heap (i := 5) HS6.out.node rfl
  have m0 := cell_heap (i := 0) HS6.out.mode rfl
  have m1 := cell_heap (i := 1) HS6.out.mode rfl
  go_wp2_with fail
  refine (kids_calls chars fold _ (.mk k m lo hi r kids) _ w6 (Nat.le_refl _) ((HT.out.move (fun b hb => HS6.out.bel.block b hb)).mono (fun b hb => Nat.lt_of_lt_of_le hb HS6.out.bel.size)) HN.out HR.out HG2.out).mono ?_
  rintro e w7 ⟨rfl, hb7⟩
  have HS7 := Lib.hid (HS6.out.below hb7)
  clear hb7 n0 n1 n2 n3 n4 n5 m0 m1
  go_wp2_with fail
  go_ret
  exact ⟨rfl, HS7.out.bel⟩

theorem treeKids_calls (t : NT) (cs : List Value) (chars fold : Bool) (w : World) (hT : NIn w (· < w.heap.size) t cs) (hn : t.nodes < 274877906944) :
    Calls Try.prog 11 #[.agg cs.toArray, .agg #[.bool chars, .bool fold]] w fun e w' => e = .returned (.bool true) ∧ Below w.heap.size w w' := by
  obtain ⟨k, m, lo, hi, r, kids⟩ := t
  obtain ⟨ar, ak, cr, ck, rfl⟩ := NIn.shape hT
  by_cases hR : rightT (.mk k m lo hi r kids) chars fold = 0
  · have hno : (NT.mk k m lo hi r kids).nodes ≤ 2000 := by
      have := (right_ok chars fold _ ⟨0, 0, 0, []⟩ rfl (by decide) hR).2.1
      rw [show (enters (Step.top (NT.mk k m lo hi r kids)).evs).length = (NT.mk k m lo hi r kids).nodes from enters_length (NT.mk k m lo hi r kids) 1 0 true true true] at this
      simp only at this
      omega
    have e : groupsT (.mk k m lo hi r kids) = (groupsIn (enters (Step.top (.mk k m lo hi r kids)).evs) : Int) := by
      unfold groupsT; rw [if_neg (by omega)]
    by_cases hG : groupsT (.mk k m lo hi r kids) = 0
    · exact kids_none k m lo hi r kids ar ak cr ck chars fold w hT hn hR hG (by rw [e] at hG; omega)
    · exact kids_some k m lo hi r kids ar ak cr ck chars fold w hT hn hR (by rw [e] at hG ⊢; omega)
  · exact kids_wrong k m lo hi r kids ar ak cr ck chars fold w hT hn hR
end Go.Proofs.Ytamhkdlcoghdbaa.PCls
