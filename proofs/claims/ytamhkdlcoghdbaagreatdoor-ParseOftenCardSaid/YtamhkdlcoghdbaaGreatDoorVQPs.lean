/- Out of Ps (wip/tools/prune2.py): the declarations alone that the texts of the trees name. -/
import Derived.Test.YtamhkdlcoghdbaaGreatDoorVMQPr
import Derived.Carry
namespace Go.Proofs.YtamhkdlcoghdbaaGreatDoor.PCls
open Go.RowKit Go.Shelf Go.Proofs.YtamhkdlcoghdbaaGreatDoorW.PrintWords Go.Proofs.YtamhkdlcoghdbaaGreatDoorW.PrintLast Go.Proofs.YtamhkdlcoghdbaaGreatDoorW.PrintMore
set_option linter.unusedVariables false
set_option linter.unusedSimpArgs false
/-- what the lexer's tokens are -/
structure TLOk (out : List Tok) : Prop where
  len : out.length ≤ 2000
  seq : okSeq 0 out
  fin : ∀ t, t ∈ out → 0 < t.fin ∧ t.fin ≤ 2000
  num : ∀ t, t ∈ out → t.kind = 6 → 1 ≤ t.n ∧ t.n ≤ 9
  ran : ∀ t, t ∈ out → t.kind = 1 → t.r.length < 2000000
theorem seq_mem {chars fold : Bool} {P : Tok → Prop} (hP : ∀ q t, TokFine chars fold q t → P t) : ∀ {l : List Tok} {q : Int}, SeqOk chars fold q l → ∀ t, t ∈ l → P t
  | [], _, _, t, h => by cases h
  | u :: l, q, hs, t, h => by
    rcases List.mem_cons.1 h with rfl | h
    · exact hP q _ hs.1
    · exact seq_mem hP hs.2.2 t h
theorem stands_end : ∀ {l : List Tok} {p e : Nat}, Stands p l e → p ≤ e
  | [], p, e, h => Nat.le_of_eq h
  | u :: l, p, e, h => by
    obtain ⟨_, f, _, h2, _, _, h3⟩ := h
    have := stands_end h3; omega
theorem stands_fin : ∀ {l : List Tok} {p e : Nat}, Stands p l e → ∀ t, t ∈ l → 0 < t.fin ∧ t.fin ≤ (e : Int)
  | [], _, _, _, t, h => by cases h
  | u :: l, p, e, hs, t, h => by
    obtain ⟨_, f, h1, h2, _, _, h3⟩ := hs
    rcases List.mem_cons.1 h with rfl | h
    · have := stands_end h3; omega
    · exact stands_fin h3 t h
theorem lex_ok {s : ByteArray} {chars fold : Bool} {out : List Tok} (h : Lx.lex clC s chars fold = .ok out) : TLOk out := by
  have h1 := lex_seq h
  have h2 := lex_told s chars fold
  rw [h] at h2
  have hs : s.size ≤ 2000 := by
    by_cases hb : 2000 < s.size
    · rw [show Lx.lex clC s chars fold = .error (30, 0) by unfold Lx.lex; rw [if_pos hb]] at h; cases h
    · omega
  refine ⟨?_, h1.both.1, fun t ht => ?_, seq_mem (P := fun t => t.kind = 6 → 1 ≤ t.n ∧ t.n ≤ 9) (fun q t h => h.2.2.2.2.2.1) h1, seq_mem (P := fun t => t.kind = 1 → t.r.length < 2000000) (fun q t h hk => ?_) h1⟩
  · have := stands_len h2; omega
  · have := stands_fin h2 t ht; omega
  · have h3 := h.2.2.2.2.2.2 hk
    simp only [setOk, Bool.and_eq_true, decide_eq_true_eq] at h3
    have h4 := norm_length t.r chars
    rw [← h3.1] at h4
    omega
/-- what Parse tells -/
def ParseAt (W w' : World) (e : Ending) (r : Except Er NT) : Prop := Below W.heap.size W w' ∧ match r with
  | .error x => ∃ g, e = .returned (.tuple #[.agg #[.int .i64 0, .int .i64 0, .int .i64 0, .int .i64 0, .slice none 0 0, .slice none 0 0], .iface 71 (.pointer (some ⟨g, 0, none⟩))]) ∧ W.heap.size ≤ g ∧ w'.heap[g]? = some (.cells #[.int .i64 x.1, .int .i64 x.2] 78 (0, 0))
  | .ok t => ∃ cs : List Value, e = .returned (.tuple #[.agg cs.toArray, .nilIface]) ∧ NIn w' (fun b => W.heap.size ≤ b ∧ b < w'.heap.size) t cs
def parseS (s : ByteArray) (chars fold : Bool) : Except Er NT := match Lx.lex clC s chars fold with
  | .error e => .error e
  | .ok l => parseT l
theorem par_results (tmps : Array Value) (w : World) (a : Nat) (v0 v1 v2 v3 v4 v5 vb : Value) (h4 : tmps.getD 4 undef = .pointer (some ⟨a, 0, none⟩)) (h5 : tmps.getD 5 undef = vb) (ho : w.heap[a]? = some (.cells #[v0, v1, v2, v3, v4, v5] 43 (0, 0))) :
    (results Tryz.f19 tmps).run Tryz.prog w = .ok (.tuple #[.agg #[v0, v1, v2, v3, v4, v5], vb]) w := by
  have r0 := cell_heap (i := 0) ho rfl
  have r1 := cell_heap (i := 1) ho rfl
  have r2 := cell_heap (i := 2) ho rfl
  have r3 := cell_heap (i := 3) ho rfl
  have r4 := cell_heap (i := 4) ho rfl
  have r5 := cell_heap (i := 5) ho rfl
  have h4' : tmps[4]?.getD undef = .pointer (some ⟨a, 0, none⟩) := by simpa using h4
  have h5' : tmps[5]?.getD undef = vb := by simpa using h5
  simp only [results, show Tryz.f19.results = #[ResultVar.cell 4 43, ResultVar.tmp 5] from rfl]
  simp [h4', h5', go_sem, r0, r1, r2, r3, r4, r5]
/-- an error's end -/
theorem par_err {W w : World} {a g : Nat} {c p : Int} {tmps : Array Value} {r : Except Er NT} (h4 : tmps.getD 4 undef = .pointer (some ⟨a, 0, none⟩)) (h5 : tmps.getD 5 undef = .iface 71 (.pointer (some ⟨g, 0, none⟩))) (ho : w.heap[a]? = some (.cells #[.int .i64 0, .int .i64 0, .int .i64 0, .int .i64 0, .slice none 0 0, .slice none 0 0] 43 (0, 0)))
    (hb : Below W.heap.size W w) (hg : W.heap.size ≤ g) (hgc : w.heap[g]? = some (.cells #[.int .i64 c, .int .i64 p] 78 (0, 0))) (hr : r = .error (c, p)) : bodyPost Tryz.prog Tryz.f19 (fun e w' => ParseAt W w' e r) .ret ⟨tmps, []⟩ w := by
  subst hr
  refine bodyPost_ret (par_results tmps w a _ _ _ _ _ _ _ h4 h5 ho) rfl ?_
  exact ⟨hb, g, rfl, hg, hgc⟩
theorem par_errp {W w : World} {a g : Nat} {c p : Int} {tmps : Array Value} {r : Except Er NT} (h4 : tmps.getD 4 undef = .pointer (some ⟨a, 0, none⟩)) (h5 : tmps.getD 5 undef = .iface 71 (.pointer (some ⟨g, 0, none⟩))) {o0 o1 o2 o3 o4 o5 : Value} (ho : w.heap[a]? = some (.cells #[o0, o1, o2, o3, o4, o5] 43 (0, 0)))
    (ha : W.heap.size ≤ a) (hb : Below W.heap.size W w) (hg : W.heap.size ≤ g) (hga : g ≠ a) (hgc : w.heap[g]? = some (.cells #[.int .i64 c, .int .i64 p] 78 (0, 0))) (hr : r = .error (c, p)) : bodyPost Tryz.prog Tryz.f19 (fun e w' => ParseAt W w' e r) .ret ⟨tmps, []⟩ (put6 w a 0 (.int .i64 0) (.int .i64 0) (.int .i64 0) (.int .i64 0) (.slice none 0 0) (.slice none 0 0)) :=
  par_err h4 h5 (put6_res ho _ _ _ _ _ _) (put6_below hb ha _ _ _ _ _ _ _) hg (by rw [put6_other _ _ _ _ _ _ _ _ _ _ hga]; exact hgc) hr
theorem endAt_made (w : World) : EndAt (w.alloc (.map #[] 0)) w.heap.size [] := by
  refine ⟨0, .map [], World.ownsMap_made w _ _ _, by simp, Maps.isMap_empty, fun q hq => ⟨0, rfl, by simp⟩⟩
theorem tok_err {m : MS} {t : Tok} {q c : Int} (hl : LastOk q m) (hq : t.kind = 2 → q ≠ 0 ∧ q ≠ 3 ∧ q ≠ 5 ∧ q ≠ 7 ∧ q ≠ 8) (hqr : 0 ≤ q ∧ q ≤ 8) (h : m.tok t = .error c) : c ≠ 0 := by
  unfold MS.tok at h
  split at h
  · split at h
    · cases h; decide
    · cases h
  split at h
  · split at h
    · cases h; decide
    · cases h
  split at h
  · cases h
  split at h
  · rename_i hk
    split at h
    · rename_i hn
      have h1 := hq hk
      exact absurd (List.getLast?_eq_none_iff.1 hn) (hl (by omega))
    · cases h
  split at h
  · split at h
    · cases h
    · cases h; decide
  split at h
  · cases h
  split at h <;> cases h
theorem partsT_err {l : List Tok} {e : Er} (h : MS.run l MS.start = .error e) : parseT l = .error e := by
  unfold parseT partsT
  rw [h]
/-- the parser as the loop over the tokens finds it -/
def PlAt (w5 wr : World) (base : Nat) (τ5 : Nat → Nat) (B mb : Nat) (out : List Tok) (R : Except Er MS) (i : Nat) : Prop :=
  ∃ (τ : Nat → Nat) (al : List Nat) (O : Value) (m : MS) (q : Int), MkAt wr base τ B m al O mb ∧ MkStp w5 wr base τ5 τ ∧ MB i m ∧ LastOk q m ∧ (0 ≤ q ∧ q ≤ 8) ∧ okSeq q (out.drop i) ∧ MS.run (out.drop i) m = R
theorem top_choice {W : World} {base : Nat} {τ : Nat → Nat} {d : Nat} {g : GS} {a : Nat} {V U : Value} {b : Nat} {ds us : List Value} (h : GAt W base τ d g a V U b ds us) : PIn W (· < W.heap.size) (.choice g.all) (chV a) := by
  have hpu := h.pu.move (w' := W) (P' := (· < W.heap.size)) (fun _ _ => rfl) (fun k hk => hk.2.1)
  have hpd := h.pd.move (w' := W) (P' := (· < W.heap.size)) (fun _ _ => rfl) (fun k hk => hk.2.1)
  obtain ⟨A, c, vs, rfl, h1, h2, h3⟩ := row_whole h.hU hpu (fun k hk => (ownLt h.hU k hk).2)
  have hbr : PIn W (· < W.heap.size) (.branch g.cur) (brV b) := .branch _ b A c vs (blk_lt h.hb) (lk_cell (i := 0) h.hb rfl) h1 h2 h3
  have hall := hpd.snoc hbr
  have hl : g.all.length = g.done.length + 1 := by simp [GS.all]
  have hV := h.hV
  rw [← hl] at hV
  obtain ⟨A', c', vs', rfl, g1, g2, g3⟩ := row_whole hV hall (fun k hk => (ownLt hV k hk).2)
  exact .choice _ a A' c' vs' (blk_lt h.ha) (lk_cell (i := 2) h.ha rfl) g1 g2 g3
theorem second_at {W : World} {base : Nat} {τ : Nat → Nat} : ∀ (b : List GS) (t : GS) (al : List Nat), b ≠ [] → GsAt W base τ (t :: b) al → 2 ≤ al.length ∧ ∃ (a : Nat) (n : Int) (V : Value), al[al.length - 2]? = some a ∧ W.heap[a]? = some (.cells #[.int .i64 n, .int .i64 (MS.second t b), V] 98 (0, 0)) ∧ 10 ≤ τ a
  | [], t, al, h, _ => absurd rfl h
  | [g], t, [], _, h => h.elim
  | [g], t, [a], _, h => h.2.elim
  | [g], t, a :: a1 :: al, _, h => by
    obtain ⟨⟨V, U, b, ds, us, hg⟩, _, h3⟩ := h
    cases al with
    | nil => exact ⟨by simp, a, _, V, rfl, hg.ha, by rw [hg.ta]; simp only [tg]; omega⟩
    | cons x al => exact h3.elim
  | g :: g2 :: b, t, [], _, h => h.elim
  | g :: g2 :: b, t, a :: al, _, h => by
    obtain ⟨h1, a', n, V, h2, h3⟩ := second_at (g2 :: b) g al (by simp) h.2
    refine ⟨by simp only [List.length_cons]; omega, a', n, V, ?_, h3⟩
    rw [List.length_cons, show al.length + 1 - 2 = (al.length - 2) + 1 by omega, List.getElem?_cons_succ]
    exact h2
theorem par_ok {W w : World} {a : Nat} {tmps : Array Value} {t : NT} {r : Except Er NT} (h4 : tmps.getD 4 undef = .pointer (some ⟨a, 0, none⟩)) (h5 : tmps.getD 5 undef = .nilIface) {o0 o1 o2 o3 o4 o5 v0 v1 v2 v3 v4 v5 : Value} (ho : w.heap[a]? = some (.cells #[o0, o1, o2, o3, o4, o5] 43 (0, 0)))
    (ha : W.heap.size ≤ a) (hb : Below W.heap.size W w) (hN : NIn w (fun b => b ≠ a ∧ W.heap.size ≤ b ∧ b < w.heap.size) t [v0, v1, v2, v3, v4, v5]) (hr : r = .ok t) : bodyPost Tryz.prog Tryz.f19 (fun e w' => ParseAt W w' e r) .ret ⟨tmps, []⟩ (put6 w a 0 v0 v1 v2 v3 v4 v5) := by
  subst hr
  refine bodyPost_ret (par_results tmps _ a _ _ _ _ _ _ _ h4 h5 (put6_res ho v0 v1 v2 v3 v4 v5)) rfl ?_
  exact ⟨put6_below hb ha _ _ _ _ _ _ _, _, rfl, (hN.move (fun b hb => put6_other _ _ _ _ _ _ _ _ _ b hb.1)).mono (fun b hb => by rw [put6_size]; exact hb.2)⟩
set_option maxHeartbeats 8000000 in
set_option maxRecDepth 100000 in
theorem parse_calls (W : World) (s : ByteArray) (chars fold : Bool) (mx : Int) (hs : s.size ≤ 140737488351232) (hm : W.cell? ⟨2, 0, none⟩ = some (.int .i64 mx)) (h2 : 2 < W.heap.size) (hT : Lib.Utf8Tabs 0 1 W) :
    Calls Tryz.prog 19 #[.string s, .agg #[.bool chars, .bool fold]] W fun e w' => ParseAt W w' e (parseS s chars fold) := by
  obtain ⟨R, hR⟩ : ∃ R, R = parseS s chars fold := ⟨_, rfl⟩
  rw [← hR]
  obtain ⟨W2, hW2⟩ : ∃ X, X = (W.alloc (.cells #[.bool chars, .bool fold] 23)).alloc (.cells #[.int .i64 0, .int .i64 0, .int .i64 0, .int .i64 0, .slice none 0 0, .slice none 0 0] 43) := ⟨_, rfl⟩
  have hb2 : Below W.heap.size W W2 := by rw [hW2]; exact ((Below.refl W.heap.size W).alloc (Nat.le_refl _) _).alloc (by simp) _
  have hz2 : W2.heap.size = W.heap.size + 2 := by rw [hW2]; simp
  have hbox : W2.heap[W.heap.size]? = some (.cells #[.bool chars, .bool fold] 23 (0, 0)) := by rw [hW2]; exact (heap_alloc_old _ _ (by simp)).trans (heap_alloc_new _ _)
  have hres : W2.heap[W.heap.size + 1]? = some (.cells #[.int .i64 0, .int .i64 0, .int .i64 0, .int .i64 0, .slice none 0 0, .slice none 0 0] 43 (0, 0)) := by rw [hW2]; exact heap_alloc2_new W _ _
  have HL := Lib.hid (lex_calls W2 s chars fold mx hs ((hb2.cell (p := ⟨2, 0, none⟩) h2).trans hm) (Nat.lt_of_lt_of_le h2 hb2.size) (tabs_below hT hb2))
  have HB := Lib.hid (And.intro hb2 (And.intro hz2 hres))
  have HR := Lib.hid hR
  clear hm h2 hT hb2 hz2 hbox hres hR hs
  go_enter Tryz.func19, Tryz.ntmps19
  go_wp2_with fail
  rw [← hW2]
  clear hW2
  refine HL.out.mono ?_
  intro e w3 hlx
  clear HL
  cases hlex : Lx.lex clC s chars fold with
  | error x =>
    rw [hlex] at hlx
    obtain ⟨hb3, g, rfl, hg, hgc⟩ := hlx
    have HX := Lib.hid (show R = .error (x.1, x.2) by rw [HR.out]; unfold parseS; rw [hlex])
    have hz := HB.out.2.1
    have hr3 := (hb3.block (W.heap.size + 1) (by omega)).trans HB.out.2.2
    have HF := Lib.hid (And.intro hb3 (And.intro hg (And.intro hgc hr3)))
    have c0 := lk_cell (i := 0) hr3 rfl
    have c1 := lk_cell (i := 1) hr3 rfl
    have c2 := lk_cell (i := 2) hr3 rfl
    have c3 := lk_cell (i := 3) hr3 rfl
    have c4 := lk_cell (i := 4) hr3 rfl
    have c5 := lk_cell (i := 5) hr3 rfl
    have hf : ∀ o, w3.frozen? ⟨W.heap.size + 1, o, none⟩ = false := fun o => by simp [World.frozen?, hr3]
    have hlt : W.heap.size + 1 < w3.heap.size := (Array.getElem?_eq_some_iff.1 hr3).1
    clear hb3 hg hgc hr3 hlex
    go_wp2_with fail
    exact par_errp rfl rfl HF.out.2.2.2 (by omega) (HB.out.1.trans (HF.out.1.mono HB.out.1.size)) (by have := HF.out.2.1; omega) (by have := HF.out.2.1; omega) HF.out.2.2.1 HX.out
  | ok out =>
    rw [hlex] at hlx
    obtain ⟨hb3, V, rfl, htk⟩ := hlx
    have hok := lex_ok hlex
    have HX := Lib.hid (show R = parseT out by rw [HR.out]; unfold parseS; rw [hlex])
    have hz := HB.out.2.1
    have hbb3 := HB.out.1.trans (hb3.mono HB.out.1.size)
    have hr3 := (hb3.block (W.heap.size + 1) (by omega)).trans HB.out.2.2
    obtain ⟨A, c, rfl, hcl, rv, hform⟩ := htk.form2
    have hz3 := hb3.size
    have HK := Lib.hid (And.intro hok hform)
    have HF := Lib.hid (And.intro hbb3 (And.intro hr3 htk))
    have hmm := @run_makeMap Tryz.prog
    clear hb3 htk hlex hbb3 hr3 hok hform
    go_wp2_with fail
    clear hmm
    obtain ⟨w4, hw4⟩ : ∃ X, X = (w3.alloc (Obj.map #[] 0)).alloc (Obj.cells #[Value.slice none 0 0, Value.int IntKind.i64 0, Value.map (some w3.heap.size)] 91) := ⟨_, rfl⟩
    rw [← hw4]
    have hz4 : w4.heap.size = w3.heap.size + 2 := by rw [hw4]; simp
    have hB4 : w4.heap[w3.heap.size + 1]? = some (.cells #[.slice none 0 0, .int .i64 0, .map (some w3.heap.size)] 91 (0, 0)) := by rw [hw4]; exact heap_alloc2_new w3 _ _
    have he4 : EndAt w4 w3.heap.size [] := by rw [hw4]; exact (endAt_made w3).move (heap_alloc_old _ _ (by simp))
    have hk4 : Below w3.heap.size w3 w4 := by rw [hw4]; exact ((Below.refl w3.heap.size w3).alloc (Nat.le_refl _) _).alloc (by simp) _
    have hbase4 : W.heap.size ≤ w4.heap.size := by omega
    have HBG := Lib.hid (begin_calls w4 W.heap.size (w3.heap.size + 1) 0 0 0 (.map (some w3.heap.size)) (.slice none 0 0) 0 [] hB4 ⟨rfl, .inl ⟨rfl, rfl⟩⟩ hbase4 (by omega) (by simp [Value.ownBlock]))
    have H4 := Lib.hid (And.intro he4 (And.intro hk4 hz4))
    clear hw4 hB4 he4 hk4
    refine HBG.out.mono ?_
    rintro e w5 ⟨rfl, O5, hbg⟩
    clear HBG
    have hz5 : w4.heap.size + 2 < w5.heap.size := (Array.getElem?_eq_some_iff.1 hbg.hr).1
    obtain ⟨τ5, hat5, hzero5⟩ := start_mem (base := W.heap.size) (B := w3.heap.size + 1) (mb := w3.heap.size) hbase4 (by omega) (by omega) (by omega) (by omega) H4.out.1 hbg
    have hk5 : ∀ k, k < w3.heap.size → w5.heap[k]? = w3.heap[k]? := fun k hk => (hbg.keep k (by omega) (by omega) (by simp [Value.ownBlock])).trans (H4.out.2.1.block k hk)
    have HS := Lib.hid (show ∀ (wr : World) (τ : Nat → Nat), MkStp w5 wr W.heap.size τ5 τ → (∀ k, k < w3.heap.size → wr.heap[k]? = w3.heap[k]?) ∧ (∀ k, W.heap.size ≤ k → k < w3.heap.size → τ k = 0) ∧ Below W.heap.size W wr from fun wr τ hst => by
      have h0 : ∀ k, k < w3.heap.size → wr.heap[k]? = w3.heap[k]? := fun k hk => (hst.block k (by omega) (.inr (hzero5 k (by omega) (by omega) (by omega)))).trans (hk5 k hk)
      refine ⟨h0, fun k h1 h2 => hst.zero k h1 (by omega) (hzero5 k (by omega) (by omega) (by omega)), ?_⟩
      have h3 := HF.out.1
      exact ⟨hst.os.trans (hbg.os.trans (H4.out.2.1.os.trans h3.os)), hst.tape.trans (hbg.tape.trans (H4.out.2.1.tape.trans h3.tape)), hst.output.trans (hbg.output.trans (H4.out.2.1.output.trans h3.output)), by have := hst.size; omega, fun k hk => (h0 k (by omega)).trans (h3.block k hk)⟩)
    obtain ⟨RM, hRM⟩ : ∃ r, r = MS.run out MS.start := ⟨_, rfl⟩
    have HRM := Lib.hid hRM
    have hst : PlAt w5 w5 W.heap.size τ5 (w3.heap.size + 1) w3.heap.size out RM 0 := ⟨τ5, _, O5, MS.start, 0, hat5, MkStp.of_below (Below.refl _ _), MB.start, fun h => by omega, by omega, HK.out.1.seq, hRM.symm⟩
    have HST := Lib.hid hst
    have hlen := HK.out.1.len
    clear hbg hat5 hzero5 hk5 H4 hRM hst
    go_wp2_with fail
    go_loopg [30] out.length (fun gg s30 wr => ∃ (i : Nat), i ≤ out.length ∧ s30 = .int .i64 i ∧ Aside0 (PlAt w5 wr W.heap.size τ5 (w3.heap.size + 1) w3.heap.size out RM i) ∧ out.length - i ≤ gg)
    case atStart => exact ⟨0, Nat.zero_le _, rfl, ⟨HST.out⟩, by omega⟩
    case round =>
      obtain ⟨i, hi, rfl, HP, hgg⟩ := hrel
      by_cases hlt : i < out.length
      · obtain ⟨t, ht⟩ : ∃ t, out[i]? = some t := ⟨_, List.getElem?_eq_getElem hlt⟩
        obtain ⟨⟨g, rfl, hcell⟩, hran⟩ := HK.out.2 i t ht
        obtain ⟨τ, al, O, m, q, hat, hst, hmb, hlo, hq, hseq, hrun⟩ := HP.out
        have hsame := HS.out wr τ hst
        have hcr : ∀ k u, (tokV t (rv i))[k]? = some u → wr.cell? ⟨g, i * 7 + k, none⟩ = some u := fun k u hu => cell_same (hcell k u hu) (hsame.1 g (block_lt_of_cell (hcell k u hu)))
        obtain ⟨Ar, cr, er, _⟩ := own_form hran.1
        rw [er] at hcr
        have c0 := hcr 0 _ rfl
        have c1 := hcr 1 _ rfl
        have c2 := hcr 2 _ rfl
        have c3 := hcr 3 _ rfl
        have c4 := hcr 4 _ rfl
        have c5 := hcr 5 _ rfl
        have c6 := hcr 6 _ rfl
        rw [Nat.add_zero] at c0
        have hgl := block_lt_of_cell c0
        have hlz : (i : Int) < (out.length : Int) := by omega
        have hi9 : i + 1 < 900000000000000 := by omega
        clear hcr hcell
        go_upto_region 9 with fail
        obtain ⟨w6, hw6⟩ : ∃ X, X = wr.alloc (Obj.cells #[Value.int IntKind.i64 t.kind, Value.int IntKind.i64 t.sat, Value.int IntKind.i64 t.fin, Value.int IntKind.i64 t.n, Value.int IntKind.i64 t.lo, Value.int IntKind.i64 t.hi, Value.slice Ar t.r.length cr] 37) := ⟨_, rfl⟩
        obtain ⟨q6, hq6⟩ : ∃ X, X = wr.heap.size := ⟨_, rfl⟩
        rw [← hw6, ← hq6]
        have hb6 : Below wr.heap.size wr w6 := by rw [hw6]; exact (Below.refl _ _).alloc (Nat.le_refl _) _
        have hbox : w6.heap[q6]? = some (.cells #[.int .i64 t.kind, .int .i64 t.sat, .int .i64 t.fin, .int .i64 t.n, .int .i64 t.lo, .int .i64 t.hi, .slice Ar t.r.length cr] 37 (0, 0)) := by rw [hw6, hq6]; exact heap_alloc_new _ _
        have hst6 : MkStp w5 w6 W.heap.size τ5 τ := hst.trans (MkStp.of_below hb6)
        have hz6 : w5.heap.size ≤ q6 := by rw [hq6]; exact hst.size
        obtain ⟨a, al', rfl⟩ : ∃ a al', al = a :: al' := by
          cases al with
          | nil => exact hat.gs.elim
          | cons a al' => exact ⟨_, _, rfl⟩
        have hdr : out.drop i = t :: out.drop (i + 1) := by
          obtain ⟨hi', e⟩ := List.getElem?_eq_some_iff.1 ht
          rw [List.drop_eq_getElem_cons hi', e]
        rw [hdr] at hseq hrun
        have htm := List.mem_of_getElem? ht
        have hown6 : w6.ownsRow W.heap.size 39 2 (.slice Ar t.r.length cr) t.r.length (rowOf t.r) := by
          rw [← er]
          exact ownMove (own_weaken hran.1 (by omega)) (fun k hk => by
            have h1 := (ownLt hran.1 k hk).2
            exact (hb6.block k (by have := hst.size; omega)).trans (hsame.1 k h1))
        have hzr : ∀ k, (Value.slice Ar t.r.length cr).ownBlock = some k → τ k = 0 := by
          rw [← er]
          exact fun k hk => hsame.2.1 k (by have := (ownLt hran.1 k hk).1; omega) (ownLt hran.1 k hk).2
        have HTOK := Lib.hid (token_calls w6 W.heap.size τ (w3.heap.size + 1) m a al' O w3.heap.size (hat.keep hb6) (by have := hb6.size; have := hst.size; omega) i hmb (by omega) q hlo t ⟨hseq.2.1, hseq.2.2.1⟩ hseq.1 hq (fun _ => by have := HK.out.1.fin t htm; omega) (fun h => by have := HK.out.1.num t htm h; omega) (.slice Ar t.r.length cr) hown6 hran.2.1 (HK.out.1.ran t htm) hzr)
        have hlk := HS.out w6 τ hst6
        have HC := Lib.hid (And.intro hst6 (And.intro hbox (And.intro hmb (And.intro hlo (And.intro hq (And.intro hseq (And.intro hrun (And.intro hz6 hlk))))))))
        have b0 := lk_cell (i := 0) hbox rfl
        have b1 := lk_cell (i := 1) hbox rfl
        have b2 := lk_cell (i := 2) hbox rfl
        have b3 := lk_cell (i := 3) hbox rfl
        have b4 := lk_cell (i := 4) hbox rfl
        have b5 := lk_cell (i := 5) hbox rfl
        have b6 := lk_cell (i := 6) hbox rfl
        have hql := (Array.getElem?_eq_some_iff.1 hbox).1
        clear hw6 hb6 hbox hst6 hdr hseq hrun htm hown6 hzr hsame hran er hat hst hmb hlo hq HP c0 c1 c2 c3 c4 c5 c6 hq6 ht hlk
        go_wp2_with fail
        refine HTOK.out.mono ?_
        intro e w7 hpost
        clear HTOK
        cases htok : m.tok t with
        | error cd =>
          rw [htok] at hpost
          obtain ⟨rfl, hb7⟩ := hpost
          have hcd : (cd == 0) = false := by rw [beq_eq_false_iff_ne]; exact tok_err HC.out.2.2.2.1 HC.out.2.2.2.2.2.1.1 HC.out.2.2.2.2.1 htok
          have HX2 := Lib.hid (show R = .error (cd, t.sat) by
            rw [HX.out]
            refine partsT_err ?_
            rw [← HRM.out]
            have h := HC.out.2.2.2.2.2.2.1
            rw [MS.run, htok] at h
            exact h.symm)
          have hr7 : w7.heap[W.heap.size + 1]? = some (.cells #[.int .i64 0, .int .i64 0, .int .i64 0, .int .i64 0, .slice none 0 0, .slice none 0 0] 43 (0, 0)) := (hb7.block _ (by have := hb7.size; have := HC.out.2.2.2.2.2.2.2.1; omega)).trans ((HC.out.2.2.2.2.2.2.2.2.1 _ (by omega)).trans HF.out.2.1)
          have d1 := lk_cell (i := 1) ((hb7.block q6 hql).trans HC.out.2.1) rfl
          have hql7 : q6 < w7.heap.size := Nat.lt_of_lt_of_le hql hb7.size
          have hbb7 := HC.out.2.2.2.2.2.2.2.2.2.2.trans (hb7.mono HC.out.2.2.2.2.2.2.2.2.2.2.size)
          have H7 := Lib.hid (And.intro hr7 hbb7)
          have hres7 : W.heap.size + 1 < w7.heap.size := (Array.getElem?_eq_some_iff.1 hr7).1
          clear hr7 hbb7 hb7 HC htok b0 b1 b2 b3 b4 b5 b6 hql
          go_wp2_with fail
          refine go_late (fun w' => w'.heap[q6]? = w7.heap[q6]?) [] [.p 1, .p 2, .t 3, .p 4, .p 0] #[I,I,I,I,I,Z,Z,Z,Z] 5 7 [.p 6, .o 7, .p 8] [.o 5, .p 6, .p 8] (by kernel_rfl) rfl rfl (by kernel_rfl) (by kernel_rfl) (by decide) (by decide) (by kernel_rfl) (by kernel_rfl) (fun c d v a w h => by cases d <;> exact h) rfl ?_
          repeat first
          | refine kp_ (v := ?_) (b := ?_) rfl (.inl ⟨by rfl, ?_⟩) ?_ ?_
            rotate_left 2
            · intro w'; go_simp; with_reducible rfl
            · simp only [Act.put, pu_, pz_, ps_, i64_w, i32_w]; rfl
          | refine kt_ (v := ?_) (b := ?_) rfl (.inl ⟨by rfl, ?_⟩) ?_ ?_
            rotate_left 2
            · intro w' hS; have hc := cell_same d1 hS; go_simp; with_reducible rfl
            · simp only [Act.put, pu_, pz_, ps_, i64_w, i32_w]; rfl
          refine kd_ ?_
          obtain ⟨w8, hw8⟩ : ∃ X, X = w7.drew := ⟨_, rfl⟩
          rw [← hw8]
          have hr8 : w8.heap[W.heap.size + 1]? = _ := (congrArg (·.heap[W.heap.size + 1]?) hw8).trans H7.out.1
          have hb8 : Below W.heap.size W w8 := by rw [hw8]; exact pw_below_drewN H7.out.2 1
          have hq8 : w8.heap[q6]? = w7.heap[q6]? := by rw [hw8]; rfl
          have H8 := Lib.hid (And.intro hr8 (And.intro hb8 hq8))
          have hres8 : W.heap.size + 1 < w8.heap.size := (Array.getElem?_eq_some_iff.1 hr8).1
          have hql8 : q6 < w8.heap.size := by rw [hw8]; exact hql7
          have x0 := lk_cell (i := 0) hr8 rfl
          have x1 := lk_cell (i := 1) hr8 rfl
          have x2 := lk_cell (i := 2) hr8 rfl
          have x3 := lk_cell (i := 3) hr8 rfl
          have x4 := lk_cell (i := 4) hr8 rfl
          have x5 := lk_cell (i := 5) hr8 rfl
          have hf : ∀ o, w8.frozen? ⟨W.heap.size + 1, o, none⟩ = false := fun o => by simp [World.frozen?, hr8]
          clear hr8 hb8 hq8 d1 hw8
          constructor
          · refine ⟨⟨some 44, _, _, _, _, _⟩, .pointer (some ⟨w8.heap.size, 0, none⟩), w8.alloc (.cells #[.int .i64 cd, .int .i64 t.sat] 78), rfl, by rfl, by go_simp; first | done | rfl, (heap_alloc_old _ _ hql8).trans H8.out.2.2, ?_⟩
            simp only [Act.put, List.setIfInBounds_toArray, List.set_cons_zero, List.set_cons_succ]
            obtain ⟨w9, hw9⟩ : ∃ X, X = w8.alloc (.cells #[.int .i64 cd, .int .i64 t.sat] 78) := ⟨_, rfl⟩
            rw [← hw9]
            have hr9 := (show w9.heap[W.heap.size + 1]? = w8.heap[W.heap.size + 1]? by rw [hw9]; exact heap_alloc_old _ _ hres8).trans H8.out.1
            have hq9 := (show w9.heap[q6]? = w8.heap[q6]? by rw [hw9]; exact heap_alloc_old _ _ hql8).trans H8.out.2.2
            have hg9 : w9.heap[w8.heap.size]? = some (.cells #[.int .i64 cd, .int .i64 t.sat] 78 (0, 0)) := by rw [hw9]; exact heap_alloc_new _ _
            have hb9 : Below W.heap.size W w9 := by rw [hw9]; exact H8.out.2.1.alloc H8.out.2.1.size _
            have H9 := Lib.hid (And.intro hr9 (And.intro hq9 (And.intro hg9 hb9)))
            have hres9 : W.heap.size + 1 < w9.heap.size := (Array.getElem?_eq_some_iff.1 hr9).1
            clear x0 x1 x2 x3 x4 x5 hf
            have x0 := lk_cell (i := 0) hr9 rfl
            have x1 := lk_cell (i := 1) hr9 rfl
            have x2 := lk_cell (i := 2) hr9 rfl
            have x3 := lk_cell (i := 3) hr9 rfl
            have x4 := lk_cell (i := 4) hr9 rfl
            have x5 := lk_cell (i := 5) hr9 rfl
            have hf : ∀ o, w9.frozen? ⟨W.heap.size + 1, o, none⟩ = false := fun o => by simp [World.frozen?, hr9]
            clear hw9 hr9 hq9 hg9 hb9
            refine go_p (v := ?_) (b := ?_) rfl (.inl ⟨by rfl, ?_⟩) ?_ ?_
            rotate_left 2
            · intro w'; go_simp; with_reducible rfl
            · simp only [Act.put, pu_, pz_, ps_, i64_w, i32_w]; rfl
            refine go_skip (w1 := put6 w9 (W.heap.size + 1) 0 (.int .i64 0) (.int .i64 0) (.int .i64 0) (.int .i64 0) (.slice none 0 0) (.slice none 0 0)) rfl (by rfl) (by unfold put6; go_simp; first | done | rfl) ((put6_other _ _ _ _ _ _ _ _ _ _ (by omega)).trans H9.out.2.1) ?_
            refine go_p (v := ?_) (b := ?_) rfl (.inl ⟨by rfl, ?_⟩) ?_ ?_
            rotate_left 2
            · intro w'; go_simp; with_reducible rfl
            · simp only [Act.put, pu_, pz_, ps_, i64_w, i32_w]; rfl
            refine go_done ?_
            go_wp2_with fail
            exact par_errp rfl rfl H9.out.1 (by omega) H9.out.2.2.2 H8.out.2.1.size (by omega) H9.out.2.2.1 HX2.out
          · refine ⟨_, put6 w8 (W.heap.size + 1) 0 (.int .i64 0) (.int .i64 0) (.int .i64 0) (.int .i64 0) (.slice none 0 0) (.slice none 0 0), rfl, rfl, by rfl, by unfold put6; go_simp; first | done | rfl, (put6_other _ _ _ _ _ _ _ _ _ _ (by omega)).trans H8.out.2.2, ?_⟩
            obtain ⟨w9, hw9⟩ : ∃ X, X = put6 w8 (W.heap.size + 1) 0 (.int .i64 0) (.int .i64 0) (.int .i64 0) (.int .i64 0) (.slice none 0 0) (.slice none 0 0) := ⟨_, rfl⟩
            rw [← hw9]
            have hr9 : w9.heap[W.heap.size + 1]? = some (.cells #[.int .i64 0, .int .i64 0, .int .i64 0, .int .i64 0, .slice none 0 0, .slice none 0 0] 43 (0, 0)) := by rw [hw9]; exact put6_res H8.out.1 _ _ _ _ _ _
            have hq9 := (show w9.heap[q6]? = w8.heap[q6]? by rw [hw9]; exact put6_other _ _ _ _ _ _ _ _ _ _ (by omega)).trans H8.out.2.2
            have hb9 : Below W.heap.size W w9 := by rw [hw9]; exact put6_below H8.out.2.1 (by omega) _ _ _ _ _ _ _
            have hq9l : q6 < w9.heap.size := by rw [hw9, put6_size]; exact hql8
            have H9 := Lib.hid (And.intro hr9 (And.intro hq9 hb9))
            have hres9 : W.heap.size + 1 < w9.heap.size := (Array.getElem?_eq_some_iff.1 hr9).1
            clear hw9 hr9 hq9 hb9 x0 x1 x2 x3 x4 x5 hf
            refine go_val (v := .pointer (some ⟨w9.heap.size, 0, none⟩)) (w1 := w9.alloc (.cells #[.int .i64 cd, .int .i64 t.sat] 78)) rfl (by rfl) (by go_simp; first | done | rfl) (by simp only [Act.put, List.setIfInBounds_toArray, List.set_cons_zero, List.set_cons_succ]; rfl) ((heap_alloc_old _ _ hq9l).trans H9.out.2.1) ?_
            refine go_p (v := ?_) (b := ?_) rfl (.inl ⟨by rfl, ?_⟩) ?_ ?_
            rotate_left 2
            · intro w'; go_simp; with_reducible rfl
            · simp only [Act.put, pu_, pz_, ps_, i64_w, i32_w]; rfl
            refine go_p (v := ?_) (b := ?_) rfl (.inl ⟨by rfl, ?_⟩) ?_ ?_
            rotate_left 2
            · intro w'; go_simp; with_reducible rfl
            · simp only [Act.put, pu_, pz_, ps_, i64_w, i32_w]; rfl
            refine go_done ?_
            go_wp2_with fail
            exact par_err rfl rfl ((heap_alloc_old _ _ hres9).trans H9.out.1) (H9.out.2.2.alloc H9.out.2.2.size _) H9.out.2.2.size (heap_alloc_new _ _) HX2.out
        | ok m' =>
          rw [htok] at hpost
          obtain ⟨rfl, τ', al2, O2, hat7, hst7⟩ := hpost
          have HN := Lib.hid (show PlAt w5 w7 W.heap.size τ5 (w3.heap.size + 1) w3.heap.size out RM (i + 1) from ⟨τ', al2, O2, m', t.kind, hat7, HC.out.1.trans hst7, HC.out.2.2.1.step htok, LastOk.step ⟨HC.out.2.2.2.2.2.1.2.1, HC.out.2.2.2.2.2.1.2.2.1⟩ htok, ⟨by have := HC.out.2.2.2.2.2.1.2.1; omega, HC.out.2.2.2.2.2.1.2.2.1⟩, HC.out.2.2.2.2.2.1.2.2.2, by have h := HC.out.2.2.2.2.2.2.1; rw [MS.run, htok] at h; exact h⟩)
          clear hat7 hst7 htok b0 b1 b2 b3 b4 b5 b6 hql
          go_wp2_with fail
          go_roundg (out.length - (i + 1))
          case measure => omega
          case rel => exact ⟨i + 1, by omega, by go_num, ⟨HN.out⟩, Nat.le_refl _⟩
      · obtain rfl : i = out.length := by omega
        obtain ⟨τ, al, O, m, q, hat, hst, hmb, hlo, hq, hseq, hrun⟩ := HP.out
        rw [List.drop_length] at hrun
        have hrm : MS.run out MS.start = .ok m := by rw [← HRM.out, ← hrun]; rfl
        have hsame := HS.out wr τ hst
        have hrr := (hsame.1 (W.heap.size + 1) (by omega)).trans HF.out.2.1
        have hBr := hat.hB
        have c0 := lk_cell (i := 0) hBr rfl
        have hBl := blk_lt hBr
        have hbelow : m.below.length < 100 := by have := hmb.below; have := hmb.many; omega
        obtain ⟨AO, cO, rfl, hcO⟩ := own_form hat.hO
        have hτr := hsame.2.1 (W.heap.size + 1) (by omega) (by omega)
        have HM := Lib.hid (And.intro hat (And.intro hmb (And.intro hrm (And.intro hrr hsame.2.2))))
        clear hat hst hmb hlo hq hseq hrun hrm hsame hrr hBr HP HST
        by_cases hbl : m.below = []
        · obtain ⟨a, al', rfl⟩ : ∃ a al', al = a :: al' := by
            cases al with
            | nil => exact HM.out.1.gs.elim
            | cons a al' => exact ⟨_, _, rfl⟩
          obtain ⟨⟨V, U, b, ds, us, hg⟩, _⟩ := HM.out.1.gs
          have hch := top_choice hg
          have hsz : PT.nsz (.choice m.top.all) < 100000 := by
            have h := HM.out.2.1.sz
            simp only [szs, GS.sz, hbl] at h
            simp only [PT.nsz, GS.all, PT.nszL_append, PT.nszL]
            omega
          obtain ⟨p, hp⟩ : ∃ p, p = PT.choice m.top.all := ⟨_, rfl⟩
          rw [← hp] at hch hsz
          have HP := Lib.hid (show R = wholeT p by
            rw [HX.out]
            unfold parseT partsT
            rw [HM.out.2.2.1]
            simp [hbl, hp])
          have hpsz := PT.psz_nsz p
          have HTP := Lib.hid (fun (w' : World) (hb : Below wr.heap.size wr w') => ptop_calls w' W.heap.size τ (w3.heap.size + 1) m a al' (.slice AO (m.below.length + 1) cO) w3.heap.size (HM.out.1.keep hb))
          have HDP := Lib.hid (fun (w' : World) (hb : Below wr.heap.size wr w') => deep_calls wr.heap.size p (by omega) (chV a) w' hb.size (hch.keep hb))
          have HND := Lib.hid (show ∀ (w' : World), Below wr.heap.size wr w' → Calls Tryz.prog 53 #[.pointer (some ⟨a, 2, none⟩)] w' (NdPost 0 w' p.node) from fun w' hb => by
            subst hp
            exact choice_node wr.heap.size 0 m.top.all (fun q hq => node_ok wr.heap.size q (by have := PT.nsz_mem hq; simp only [PT.nsz] at hsz; omega)) (by simp only [PT.nsz] at hsz; omega) a w' hb.size (hch.keep hb))
          have hnn := PT.node_nodes p
          have hdl := PT.deep_le p
          obtain ⟨dp, hdp⟩ : ∃ d, d = p.deep := ⟨_, rfl⟩
          have HDE := Lib.hid hdp
          rw [← hdp] at HDP hdl
          have hb1 : m.below.length = 0 := by rw [hbl]; rfl
          rw [hb1] at c0
          clear hg hch hp hdp hτr
          go_wp2_with fail
          refine (HTP.out wr (Below.refl _ _)).mono ?_
          rintro e wa ⟨rfl, hba⟩
          have HA := Lib.hid hba
          clear hba
          unfold chV at HDP
          go_wp2_with fail
          refine (HDP.out wa HA.out).mono ?_
          rintro e wb ⟨rfl, hbb⟩
          have HBb := Lib.hid (HA.out.trans (hbb.mono HA.out.size))
          clear hbb HDP
          have hrb := (HBb.out.block _ (by have := blk_lt HM.out.2.2.2.1; exact this)).trans HM.out.2.2.2.1
          have hbbW := HM.out.2.2.2.2.trans (HBb.out.mono HM.out.2.2.2.2.size)
          by_cases h40 : 40 < dp
          · have HX2 := Lib.hid (show R = .error (43, 0) by rw [HP.out]; unfold wholeT; rw [if_pos (by rw [← HDE.out]; exact h40)])
            have H8 := Lib.hid (And.intro hrb hbbW)
            have x0 := lk_cell (i := 0) hrb rfl
            have x1 := lk_cell (i := 1) hrb rfl
            have x2 := lk_cell (i := 2) hrb rfl
            have x3 := lk_cell (i := 3) hrb rfl
            have x4 := lk_cell (i := 4) hrb rfl
            have x5 := lk_cell (i := 5) hrb rfl
            have hf : ∀ o, wb.frozen? ⟨W.heap.size + 1, o, none⟩ = false := fun o => by simp [World.frozen?, hrb]
            have hl8 := blk_lt hrb
            clear hrb hbbW HND HTP
            go_wp2_with fail
            have hz9 : (put6 wb (W.heap.size + 1) 0 (.int .i64 0) (.int .i64 0) (.int .i64 0) (.int .i64 0) (.slice none 0 0) (.slice none 0 0)).heap.size = wb.heap.size := put6_size _ _ _ _ _ _ _ _ _
            have hb9 : Below W.heap.size W (put6 wb (W.heap.size + 1) 0 (.int .i64 0) (.int .i64 0) (.int .i64 0) (.int .i64 0) (.slice none 0 0) (.slice none 0 0)) := put6_below H8.out.2 (by omega) _ _ _ _ _ _ _
            exact par_err (w := (put6 wb (W.heap.size + 1) 0 (.int .i64 0) (.int .i64 0) (.int .i64 0) (.int .i64 0) (.slice none 0 0) (.slice none 0 0)).alloc (.cells #[.int .i64 43, .int .i64 0] 78)) (g := wb.heap.size) rfl rfl ((heap_alloc_old _ _ (by omega)).trans (put6_res H8.out.1 _ _ _ _ _ _)) (hb9.alloc hb9.size _) H8.out.2.size (by rw [← hz9]; exact heap_alloc_new _ _) HX2.out
          · have H8 := Lib.hid (And.intro hrb hbbW)
            clear hrb hbbW
            go_wp2_with fail
            refine (HTP.out wb HBb.out).mono ?_
            rintro e wc ⟨rfl, hbc⟩
            have HC := Lib.hid (HBb.out.trans (hbc.mono HBb.out.size))
            have HC2 := Lib.hid hbc
            clear hbc HTP
            go_wp2_with fail
            refine (HND.out wc HC.out).mono ?_
            rintro e wd ⟨cs, rfl, hN, hbd⟩
            obtain ⟨kk, km, klo, khi, kar, kak, klr, kcr, klk, kck, rfl⟩ := nin_six hN
            have hzc := HC.out.size
            have hzd := hbd.size
            have hNe : NIn (wd.alloc (.cells #[.int .i64 kk, .int .i64 km, .int .i64 klo, .int .i64 khi, .slice kar klr kcr, .slice kak klk kck] 43)) (fun b => wc.heap.size ≤ b ∧ b < wd.heap.size) p.node [.int .i64 kk, .int .i64 km, .int .i64 klo, .int .i64 khi, .slice kar klr kcr, .slice kak klk kck] := (hN.move (fun b hb => heap_alloc_old _ _ (by rcases hb with hb | hb <;> omega))).mono (fun b hb => by rcases hb with hb | hb <;> omega)
            have HCN := Lib.hid (count_calls p.node _ (wd.alloc (.cells #[.int .i64 kk, .int .i64 km, .int .i64 klo, .int .i64 khi, .slice kar klr kcr, .slice kak klk kck] 43)) (hNe.mono (fun b hb => by simp; omega)) (by omega))
            have HNE := Lib.hid (And.intro hNe (show Below W.heap.size W (wd.alloc (.cells #[.int .i64 kk, .int .i64 km, .int .i64 klo, .int .i64 khi, .slice kar klr kcr, .slice kak klk kck] 43)) ∧ (wd.alloc (.cells #[.int .i64 kk, .int .i64 km, .int .i64 klo, .int .i64 khi, .slice kar klr kcr, .slice kak klk kck] 43)).heap[W.heap.size + 1]? = some (.cells #[.int .i64 0, .int .i64 0, .int .i64 0, .int .i64 0, .slice none 0 0, .slice none 0 0] 43 (0, 0)) from by
              have h1 := HM.out.2.2.2.2.trans ((HC.out.trans (hbd.mono HC.out.size)).mono HM.out.2.2.2.2.size)
              refine ⟨h1.alloc h1.size _, ?_⟩
              have hlt1 := blk_lt HM.out.2.2.2.1
              exact (heap_alloc_old _ _ (by omega)).trans (((HC.out.trans (hbd.mono HC.out.size)).block _ hlt1).trans HM.out.2.2.2.1)))
            obtain ⟨ct, hct⟩ : ∃ c, c = countT p.node := ⟨_, rfl⟩
            have HCT := Lib.hid hct
            rw [← hct] at HCN
            clear hN hbd hNe hct HND
            go_wp2_with fail
            refine HCN.out.mono ?_
            rintro e wf ⟨rfl, hbf⟩
            have hkf := (hbf.block wd.heap.size (by simp)).trans (heap_alloc_new wd _)
            have hzf : wd.heap.size + 1 ≤ wf.heap.size := by have := hbf.size; simpa using this
            have hlt1 := blk_lt HM.out.2.2.2.1
            have hrf := (hbf.block (W.heap.size + 1) (by simp; omega)).trans HNE.out.2.2
            have hNf := (HNE.out.1.move (w' := wf) (fun b hb => hbf.block b (by simp; omega)))
            have HF9 := Lib.hid (And.intro hrf (And.intro (HNE.out.2.1.trans (hbf.mono HNE.out.2.1.size)) hNf))
            have x0 := lk_cell (i := 0) hrf rfl
            have x1 := lk_cell (i := 1) hrf rfl
            have x2 := lk_cell (i := 2) hrf rfl
            have x3 := lk_cell (i := 3) hrf rfl
            have x4 := lk_cell (i := 4) hrf rfl
            have x5 := lk_cell (i := 5) hrf rfl
            have y0 := lk_cell (i := 0) hkf rfl
            have y1 := lk_cell (i := 1) hkf rfl
            have y2 := lk_cell (i := 2) hkf rfl
            have y3 := lk_cell (i := 3) hkf rfl
            have y4 := lk_cell (i := 4) hkf rfl
            have y5 := lk_cell (i := 5) hkf rfl
            have hf : ∀ o, wf.frozen? ⟨W.heap.size + 1, o, none⟩ = false := fun o => by simp [World.frozen?, hrf]
            have hl8 := blk_lt hrf
            have hl9 := blk_lt hkf
            clear hkf hrf hNf hbf HCN
            by_cases h20 : 2000 < ct
            · have HX2 := Lib.hid (show R = .error (42, 0) by rw [HP.out]; unfold wholeT; rw [if_neg (by rw [← HDE.out]; omega), if_pos (by rw [← HCT.out]; omega)])
              go_wp2_with fail
              have hz9 : (put6 wf (W.heap.size + 1) 0 (.int .i64 0) (.int .i64 0) (.int .i64 0) (.int .i64 0) (.slice none 0 0) (.slice none 0 0)).heap.size = wf.heap.size := put6_size _ _ _ _ _ _ _ _ _
              have hb9 : Below W.heap.size W (put6 wf (W.heap.size + 1) 0 (.int .i64 0) (.int .i64 0) (.int .i64 0) (.int .i64 0) (.slice none 0 0) (.slice none 0 0)) := put6_below HF9.out.2.1 (by omega) _ _ _ _ _ _ _
              exact par_err (w := (put6 wf (W.heap.size + 1) 0 (.int .i64 0) (.int .i64 0) (.int .i64 0) (.int .i64 0) (.slice none 0 0) (.slice none 0 0)).alloc (.cells #[.int .i64 42, .int .i64 0] 78)) (g := wf.heap.size) rfl rfl ((heap_alloc_old _ _ (by omega)).trans (put6_res HF9.out.1 _ _ _ _ _ _)) (hb9.alloc hb9.size _) HF9.out.2.1.size (by rw [← hz9]; exact heap_alloc_new _ _) HX2.out
            · have HX2 := Lib.hid (show R = .ok p.node by rw [HP.out]; unfold wholeT; rw [if_neg (by rw [← HDE.out]; omega), if_neg (by rw [← HCT.out]; omega)])
              go_wp2_with fail
              exact par_ok (a := W.heap.size + 1) rfl rfl HF9.out.1 (by omega) HF9.out.2.1 (HF9.out.2.2.mono (fun b hb => ⟨by omega, by have := HM.out.2.2.2.2.size; omega, by omega⟩)) HX2.out
        · have hpos : 1 < m.below.length + 1 := by have := List.length_pos_iff.2 hbl; omega
          have hpz : (1 : Int) < ((m.below.length + 1 : Nat) : Int) := by omega
          obtain ⟨h2l, a1, n1, V1, hal, ha1, hτa⟩ := second_at m.below m.top al hbl HM.out.1.gs
          have HX2 := Lib.hid (show R = .error (39, MS.second m.top m.below) by
            rw [HX.out]
            unfold parseT partsT
            rw [HM.out.2.2.1]
            have : m.below.isEmpty = false := by cases hb : m.below with | nil => exact absurd hb hbl | cons x l => rfl
            simp [this])
          obtain ⟨pl, hpl⟩ : ∃ p, p = MS.second m.top m.below := ⟨_, rfl⟩
          rw [← hpl] at HX2 ha1
          have hxs : ((al.reverse.map grP)[1]?) = some (grP a1) := by
            rw [List.getElem?_map, List.getElem?_reverse (by omega), show al.length - 1 - 1 = al.length - 2 by omega, hal]; rfl
          obtain ⟨go, rfl, ho1, hgo, hτo⟩ : ∃ go, AO = some ⟨go, 0, none⟩ ∧ wr.cell? ⟨go, 1, none⟩ = some (grP a1) ∧ go < wr.heap.size ∧ τ go = 2 := by
            have hO := HM.out.1.hO
            have htO := HM.out.1.tO
            rcases hO.2 with ⟨e1, e0⟩ | ⟨g, cap, cur, e1, hb, hh, hc, hm, hs, htk⟩
            · rw [Nat.add_eq_zero_iff] at e0; omega
            · simp only [Value.slice.injEq] at e1
              obtain ⟨rfl, _, rfl⟩ := e1
              refine ⟨g, rfl, ?_, (Array.getElem?_eq_some_iff.1 hh).1, htO g rfl⟩
              rw [← htk, List.getElem?_take] at hxs
              split at hxs
              · exact lk_cell hh (by simpa using hxs)
              · cases hxs
          have hne1 : w3.heap.size + 1 ≠ W.heap.size + 1 := by omega
          have hne2 : go ≠ W.heap.size + 1 := fun e => by rw [e] at hτo; omega
          have hne3 : a1 ≠ W.heap.size + 1 := fun e => by rw [e] at hτa; omega
          have hp1 := lk_cell (i := 1) ha1 rfl
          have ha1l := blk_lt ha1
          have hO1 : 1 < m.below.length + 1 := hpos
          clear hal ha1 hxs hτo hτa hτr hpl hbl h2l
          unfold grP at ho1
          go_wp2_with fail
          refine go_late (fun w' => w'.cell? ⟨w3.heap.size + 1, 0, none⟩ = some (.slice (some ⟨go, 0, none⟩) (m.below.length + 1) cO) ∧ w'.cell? ⟨go, 1, none⟩ = some (.pointer (some ⟨a1, 0, none⟩)) ∧ w'.cell? ⟨a1, 1, none⟩ = some (.int .i64 pl)) [] [.p 1, .p 2, .p 3, .t 4, .p 5, .t 6, .p 7, .p 8, .t 9, .p 10, .p 0] #[I,I,I,I,I,I,I,I,I,I,I,Z,Z,Z,Z] 11 13 [.p 12, .o 13, .p 14] [.o 11, .p 12, .p 14] (by kernel_rfl) rfl rfl (by kernel_rfl) (by kernel_rfl) (by decide) (by decide) (by kernel_rfl) (by kernel_rfl) (fun c d v a w h => by cases d <;> exact h) ⟨c0, ho1, hp1⟩ ?_
          repeat first
          | refine kp_ (v := ?_) (b := ?_) rfl (.inl ⟨by rfl, ?_⟩) ?_ ?_
            rotate_left 2
            · intro w'; go_simp; with_reducible rfl
            · simp only [Act.put, pu_, pz_, ps_, i64_w, i32_w]; rfl
          | refine kt_ (v := ?_) (b := ?_) rfl (.inl ⟨by rfl, ?_⟩) ?_ ?_
            rotate_left 2
            · intro w' hS; have hc1 := hS.1; have hc2 := hS.2.1; have hc3 := hS.2.2; go_simp; with_reducible rfl
            · simp only [Act.put, pu_, pz_, ps_, i64_w, i32_w]; rfl
          refine kd_ ?_
          obtain ⟨w8, hw8⟩ : ∃ X, X = wr.drew := ⟨_, rfl⟩
          rw [← hw8]
          have hr8 : w8.heap[W.heap.size + 1]? = _ := (congrArg (·.heap[W.heap.size + 1]?) hw8).trans HM.out.2.2.2.1
          have hb8 : Below W.heap.size W w8 := by rw [hw8]; exact pw_below_drewN HM.out.2.2.2.2 1
          have hgo8 : w3.heap.size + 1 < w8.heap.size := by rw [hw8]; exact hBl
          have hgo9 : go < w8.heap.size := by rw [hw8]; exact hgo
          have hgo10 : a1 < w8.heap.size := by rw [hw8]; exact ha1l
          have H8 := Lib.hid (And.intro hr8 (And.intro hb8 (show w8.cell? ⟨w3.heap.size + 1, 0, none⟩ = some (.slice (some ⟨go, 0, none⟩) (m.below.length + 1) cO) ∧ w8.cell? ⟨go, 1, none⟩ = some (.pointer (some ⟨a1, 0, none⟩)) ∧ w8.cell? ⟨a1, 1, none⟩ = some (.int .i64 pl) by rw [hw8]; exact ⟨c0, ho1, hp1⟩)))
          have hres8 : W.heap.size + 1 < w8.heap.size := (Array.getElem?_eq_some_iff.1 hr8).1
          have x0 := lk_cell (i := 0) hr8 rfl
          have x1 := lk_cell (i := 1) hr8 rfl
          have x2 := lk_cell (i := 2) hr8 rfl
          have x3 := lk_cell (i := 3) hr8 rfl
          have x4 := lk_cell (i := 4) hr8 rfl
          have x5 := lk_cell (i := 5) hr8 rfl
          have hf : ∀ o, w8.frozen? ⟨W.heap.size + 1, o, none⟩ = false := fun o => by simp [World.frozen?, hr8]
          clear hr8 hb8 hw8 c0 ho1 hp1
          constructor
          · refine ⟨⟨some 64, _, _, _, _, _⟩, .pointer (some ⟨w8.heap.size, 0, none⟩), w8.alloc (.cells #[.int .i64 39, .int .i64 pl] 78), rfl, by rfl, by go_simp; first | done | rfl, ⟨cell_same H8.out.2.2.1 (heap_alloc_old _ _ hgo8), cell_same H8.out.2.2.2.1 (heap_alloc_old _ _ hgo9), cell_same H8.out.2.2.2.2 (heap_alloc_old _ _ hgo10)⟩, ?_⟩
            simp only [Act.put, List.setIfInBounds_toArray, List.set_cons_zero, List.set_cons_succ]
            obtain ⟨w9, hw9⟩ : ∃ X, X = w8.alloc (.cells #[.int .i64 39, .int .i64 pl] 78) := ⟨_, rfl⟩
            rw [← hw9]
            have hr9 := (show w9.heap[W.heap.size + 1]? = w8.heap[W.heap.size + 1]? by rw [hw9]; exact heap_alloc_old _ _ hres8).trans H8.out.1
            have hq9 : w9.cell? ⟨w3.heap.size + 1, 0, none⟩ = some (.slice (some ⟨go, 0, none⟩) (m.below.length + 1) cO) ∧ w9.cell? ⟨go, 1, none⟩ = some (.pointer (some ⟨a1, 0, none⟩)) ∧ w9.cell? ⟨a1, 1, none⟩ = some (.int .i64 pl) := by rw [hw9]; exact ⟨cell_same H8.out.2.2.1 (heap_alloc_old _ _ hgo8), cell_same H8.out.2.2.2.1 (heap_alloc_old _ _ hgo9), cell_same H8.out.2.2.2.2 (heap_alloc_old _ _ hgo10)⟩
            have hg9 : w9.heap[w8.heap.size]? = some (.cells #[.int .i64 39, .int .i64 pl] 78 (0, 0)) := by rw [hw9]; exact heap_alloc_new _ _
            have hb9 : Below W.heap.size W w9 := by rw [hw9]; exact H8.out.2.1.alloc H8.out.2.1.size _
            have H9 := Lib.hid (And.intro hr9 (And.intro hq9 (And.intro hg9 hb9)))
            have hres9 : W.heap.size + 1 < w9.heap.size := (Array.getElem?_eq_some_iff.1 hr9).1
            clear x0 x1 x2 x3 x4 x5 hf
            have x0 := lk_cell (i := 0) hr9 rfl
            have x1 := lk_cell (i := 1) hr9 rfl
            have x2 := lk_cell (i := 2) hr9 rfl
            have x3 := lk_cell (i := 3) hr9 rfl
            have x4 := lk_cell (i := 4) hr9 rfl
            have x5 := lk_cell (i := 5) hr9 rfl
            have hf : ∀ o, w9.frozen? ⟨W.heap.size + 1, o, none⟩ = false := fun o => by simp [World.frozen?, hr9]
            clear hw9 hr9 hq9 hg9 hb9
            refine go_p (v := ?_) (b := ?_) rfl (.inl ⟨by rfl, ?_⟩) ?_ ?_
            rotate_left 2
            · intro w'; go_simp; with_reducible rfl
            · simp only [Act.put, pu_, pz_, ps_, i64_w, i32_w]; rfl
            refine go_skip (w1 := put6 w9 (W.heap.size + 1) 0 (.int .i64 0) (.int .i64 0) (.int .i64 0) (.int .i64 0) (.slice none 0 0) (.slice none 0 0)) rfl (by rfl) (by unfold put6; go_simp; first | done | rfl) ⟨cell_same H9.out.2.1.1 (put6_other _ _ _ _ _ _ _ _ _ _ hne1), cell_same H9.out.2.1.2.1 (put6_other _ _ _ _ _ _ _ _ _ _ hne2), cell_same H9.out.2.1.2.2 (put6_other _ _ _ _ _ _ _ _ _ _ hne3)⟩ ?_
            refine go_p (v := ?_) (b := ?_) rfl (.inl ⟨by rfl, ?_⟩) ?_ ?_
            rotate_left 2
            · intro w'; go_simp; with_reducible rfl
            · simp only [Act.put, pu_, pz_, ps_, i64_w, i32_w]; rfl
            refine go_done ?_
            go_wp2_with fail
            exact par_errp rfl rfl H9.out.1 (by omega) H9.out.2.2.2 H8.out.2.1.size (by omega) H9.out.2.2.1 HX2.out
          · refine ⟨_, put6 w8 (W.heap.size + 1) 0 (.int .i64 0) (.int .i64 0) (.int .i64 0) (.int .i64 0) (.slice none 0 0) (.slice none 0 0), rfl, rfl, by rfl, by unfold put6; go_simp; first | done | rfl, ⟨cell_same H8.out.2.2.1 (put6_other _ _ _ _ _ _ _ _ _ _ hne1), cell_same H8.out.2.2.2.1 (put6_other _ _ _ _ _ _ _ _ _ _ hne2), cell_same H8.out.2.2.2.2 (put6_other _ _ _ _ _ _ _ _ _ _ hne3)⟩, ?_⟩
            obtain ⟨w9, hw9⟩ : ∃ X, X = put6 w8 (W.heap.size + 1) 0 (.int .i64 0) (.int .i64 0) (.int .i64 0) (.int .i64 0) (.slice none 0 0) (.slice none 0 0) := ⟨_, rfl⟩
            rw [← hw9]
            have hr9 : w9.heap[W.heap.size + 1]? = some (.cells #[.int .i64 0, .int .i64 0, .int .i64 0, .int .i64 0, .slice none 0 0, .slice none 0 0] 43 (0, 0)) := by rw [hw9]; exact put6_res H8.out.1 _ _ _ _ _ _
            have hq9 : w9.cell? ⟨w3.heap.size + 1, 0, none⟩ = some (.slice (some ⟨go, 0, none⟩) (m.below.length + 1) cO) ∧ w9.cell? ⟨go, 1, none⟩ = some (.pointer (some ⟨a1, 0, none⟩)) ∧ w9.cell? ⟨a1, 1, none⟩ = some (.int .i64 pl) := by rw [hw9]; exact ⟨cell_same H8.out.2.2.1 (put6_other _ _ _ _ _ _ _ _ _ _ hne1), cell_same H8.out.2.2.2.1 (put6_other _ _ _ _ _ _ _ _ _ _ hne2), cell_same H8.out.2.2.2.2 (put6_other _ _ _ _ _ _ _ _ _ _ hne3)⟩
            have hb9 : Below W.heap.size W w9 := by rw [hw9]; exact put6_below H8.out.2.1 (by omega) _ _ _ _ _ _ _
            have hz9 : w9.heap.size = w8.heap.size := by rw [hw9, put6_size]
            have H9 := Lib.hid (And.intro hr9 (And.intro hq9 hb9))
            have hres9 : W.heap.size + 1 < w9.heap.size := (Array.getElem?_eq_some_iff.1 hr9).1
            clear hw9 hr9 hq9 hb9 x0 x1 x2 x3 x4 x5 hf
            refine go_val (v := .pointer (some ⟨w9.heap.size, 0, none⟩)) (w1 := w9.alloc (.cells #[.int .i64 39, .int .i64 pl] 78)) rfl (by rfl) (by go_simp; first | done | rfl) (by simp only [Act.put, List.setIfInBounds_toArray, List.set_cons_zero, List.set_cons_succ]; rfl) ⟨cell_same H9.out.2.1.1 (heap_alloc_old _ _ (by omega)), cell_same H9.out.2.1.2.1 (heap_alloc_old _ _ (by omega)), cell_same H9.out.2.1.2.2 (heap_alloc_old _ _ (by omega))⟩ ?_
            refine go_p (v := ?_) (b := ?_) rfl (.inl ⟨by rfl, ?_⟩) ?_ ?_
            rotate_left 2
            · intro w'; go_simp; with_reducible rfl
            · simp only [Act.put, pu_, pz_, ps_, i64_w, i32_w]; rfl
            refine go_p (v := ?_) (b := ?_) rfl (.inl ⟨by rfl, ?_⟩) ?_ ?_
            rotate_left 2
            · intro w'; go_simp; with_reducible rfl
            · simp only [Act.put, pu_, pz_, ps_, i64_w, i32_w]; rfl
            refine go_done ?_
            go_wp2_with fail
            exact par_err rfl rfl ((heap_alloc_old _ _ hres9).trans H9.out.1) (H9.out.2.2.alloc H9.out.2.2.size _) (by rw [← hz9]; exact H9.out.2.2.size) (by rw [← hz9]; exact heap_alloc_new _ _) HX2.out
end Go.Proofs.YtamhkdlcoghdbaaGreatDoor.PCls
