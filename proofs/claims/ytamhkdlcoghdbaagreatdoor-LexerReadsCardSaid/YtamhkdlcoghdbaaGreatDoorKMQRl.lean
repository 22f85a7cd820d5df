/- Put together (wip/tools/pack.py): QRl, QRt. -/
import Derived.Test.YtamhkdlcoghdbaaGreatDoorKMQRy
/- Out of Rl (wip/tools/prune2.py): the declarations alone that the texts of the trees name. -/
namespace Go.Proofs.YtamhkdlcoghdbaaGreatDoor.PCls
open Go.RowKit Go.Shelf Go.Proofs.YtamhkdlcoghdbaaGreatDoorW.PrintWords Go.Proofs.YtamhkdlcoghdbaaGreatDoorW.PrintLast Go.Proofs.YtamhkdlcoghdbaaGreatDoorW.PrintMore
set_option linter.unusedVariables false
set_option linter.unusedSimpArgs false
/-- what the reference's Lex hands back -/
def RLexAt (W w' : World) (e : Ending) (r : Except Er (List Tok)) : Prop := Below W.heap.size W w' ∧ match r with
  | .error x => e = .returned (.tuple #[.slice none 0 0, .int .i64 x.1, .int .i64 x.2])
  | .ok out => ∃ V', e = .returned (.tuple #[V', .int .i64 0, .int .i64 0]) ∧ ToksAt w' W.heap.size V' out
theorem next_code {s : ByteArray} {chars fold : Bool} {x : Lx.St} {y : Er} (hx : x.sat < s.size) (h : Lx.next clC s chars fold x = .error y) : y.1 ≠ 0 := by
  have hs := next_step (chars := chars) (fold := fold) hx
  rw [h] at hs
  have := hs.2.2
  omega
theorem next_kinds {s : ByteArray} {chars fold : Bool} {x y : Lx.St} (hx : x.sat < s.size) (h : Lx.next clC s chars fold x = .ok y) (hk : ∀ t, t ∈ x.out → 1 ≤ t.kind) : ∀ t, t ∈ y.out → 1 ≤ t.kind := by
  have hs := next_step (chars := chars) (fold := fold) hx
  rw [h] at hs
  obtain ⟨t, e, rfl, _, _, h1, _⟩ := hs
  intro u hu
  simp only [Lx.put, List.mem_append, List.mem_singleton] at hu
  rcases hu with hu | rfl
  · exact hk u hu
  · exact h1
def RqHd (W4 : World) (B : Nat) (s : ByteArray) (chars fold : Bool) (gg : Nat) (wr : World) : Prop := ∃ (x : Lx.St) (V : Value) (k : Nat), RSt wr B (B + 1) s chars fold x V ∧ Stp W4 wr B (B + 1) ∧ s.size + 1 ≤ x.out.length + k ∧ s.size + 1 - x.out.length ≤ gg ∧ (∀ t, t ∈ x.out → 1 ≤ t.kind) ∧ Lx.lex clC s chars fold = Lx.run clC s chars fold k x
def RlErr (W4 : World) (B : Nat) (s : ByteArray) (chars fold : Bool) (wr : World) : Prop := ∃ (y : Er) (p : Nat) (V : Value), Lx.lex clC s chars fold = .error y ∧ y.1 ≠ 0 ∧ Rs wr B s chars fold p V y.1 y.2 ∧ Stp W4 wr B (B + 1)
set_option maxHeartbeats 4000000 in
set_option maxRecDepth 100000 in
theorem rlex_calls (W : World) (s : ByteArray) (chars fold : Bool) (hs : s.size ≤ 140737488351232) :
    Calls Tryz.prog 13 #[.string s, .agg #[.bool chars, .bool fold]] W fun e w' => RLexAt W w' e (Lx.lex clC s chars fold) := by
  have hb1 := (Below.refl W.heap.size W).alloc (Nat.le_refl _) (.cells #[.bool chars, .bool fold] 23)
  by_cases hbig : 2000 < s.size
  · have HX := Lib.hid (show Lx.lex clC s chars fold = .error (30, 0) by unfold Lx.lex; rw [if_pos hbig])
    have hbi : (2000 : Int) < (s.size : Int) := by omega
    go_enter Tryz.func13, Tryz.ntmps13
    go_wp2_with fail
    refine bodyPost_ret (v := .tuple #[.slice none 0 0, .int .i64 30, .int .i64 0]) (by simp [results, Tryz.results13, go_sem]) rfl ?_
    exact ⟨hb1, by rw [HX.out]⟩
  · have HX := Lib.hid (show Lx.lex clC s chars fold = Lx.run clC s chars fold (s.size + 1) ⟨0, []⟩ by unfold Lx.lex; rw [if_neg hbig])
    have hbi : ¬ (2000 : Int) < (s.size : Int) := by omega
    go_enter Tryz.func13, Tryz.ntmps13
    go_upto_block 0 with fail
    have hb2 := hb1.alloc hb1.size (.cells #[.string s, .bool chars, .bool fold, .int .i64 0, .slice none 0 0, .int .i64 0, .int .i64 0] 70)
    obtain ⟨W4, hW4⟩ : ∃ X, X = (W.alloc (.cells #[.bool chars, .bool fold] 23)).alloc (.cells #[.string s, .bool chars, .bool fold, .int .i64 0, .slice none 0 0, .int .i64 0, .int .i64 0] 70) := ⟨_, rfl⟩
    obtain ⟨B, hB⟩ : ∃ B, B = W.heap.size + 1 := ⟨_, rfl⟩
    have hz4 : W4.heap.size = B + 1 := by rw [hW4, hB]; simp
    have hst : RSt W4 B (B + 1) s chars fold ⟨0, []⟩ (.slice none 0 0) := ⟨by rw [hW4]; exact alloc_at (by rw [hB]; simp), ToksAt.nil _ _, Nat.lt_succ_self _, by omega, Nat.le_refl _, Nat.zero_le _, by show s.size ≤ 2000; omega⟩
    rw [← hW4] at hb2
    rw [← hW4, ← hB]
    have HB := Lib.hid (And.intro hb2 (And.intro hB hz4))
    have HST := Lib.hid hst
    clear hst hz4 hb2 hb1 hB hW4
    go_wp2_with fail
    go_loopg [30] (s.size + 2) (fun gg _ wr => RqHd W4 B s chars fold gg wr ∨ RlErr W4 B s chars fold wr)
    case atStart => exact .inl ⟨⟨0, []⟩, .slice none 0 0, s.size + 1, HST.out, ⟨rfl, rfl, rfl, Nat.le_refl _, fun _ _ _ => rfl⟩, by simp, by simp, fun t ht => by simp at ht, HX.out⟩
    case round =>
      rcases hrel with ⟨x, V, k, hs1, hp1, hk, hgg, hkk, hr⟩ | ⟨y, p, V, hy, hy0, hrs, hp1⟩
      · have c0 := hs1.sc.c0
        have c3 := hs1.sc.c3
        have c4 := hs1.sc.c4
        have c5 := hs1.sc.c5
        by_cases hx : x.sat < s.size
        · obtain ⟨k, rfl⟩ : ∃ j, k = j + 1 := ⟨k - 1, by have := hs1.len; omega⟩
          have HN := Lib.hid (rtoken_calls wr B (B + 1) s chars fold x V hs1 hkk hx)
          have hlt : (x.sat : Int) < (s.size : Int) := by omega
          have HR2 := Lib.hid (hr.trans (run_step hx))
          have HXX := Lib.hid (And.intro hx (And.intro hkk (And.intro hs1.len hp1)))
          clear hr hx hs1 hp1 hkk HX HST
          go_wp2_with fail
          refine HN.out.mono ?_
          rintro e w2 ⟨rfl, hst⟩
          clear HN
          cases hn : Lx.next clC s chars fold x with
          | error y =>
            rw [hn] at hst
            obtain ⟨⟨p, V', hrs⟩, hstp⟩ := hst
            have hXX := HR2.out.trans (by rw [hn])
            have HE := Lib.hid (show RlErr W4 B s chars fold w2 from ⟨y, p, V', hXX, next_code HXX.out.1 hn, hrs, HXX.out.2.2.2.trans hstp⟩)
            clear hrs hstp hXX hn HR2 hlt c0 c3 c4 c5
            go_wp2_with fail
            go_roundg 0
            case measure => have h1 := HXX.out.2.2.1; have h2 := HXX.out.1; omega
            case rel => exact .inr HE.out
          | ok y =>
            rw [hn] at hst
            obtain ⟨V', hs', hp'⟩ := hst
            have hyl := next_length hn
            have HE := Lib.hid (show RqHd W4 B s chars fold (s.size + 1 - y.out.length) w2 from ⟨y, V', k, hs', HXX.out.2.2.2.trans hp', by omega, Nat.le_refl _, next_kinds HXX.out.1 hn HXX.out.2.1, HR2.out.trans (by rw [hn])⟩)
            have hlen := HXX.out.2.2.1
            have hl9 := hs'.len
            have hl8 := hs'.sz
            clear hs' hp' hn HR2 hlt c0 c3 c4 c5
            go_wp2_with fail
            go_roundg (s.size + 1 - y.out.length)
            case measure => omega
            case rel => exact .inl HE.out
        · have hlt : ¬ (x.sat : Int) < (s.size : Int) := by omega
          have HR2 := Lib.hid (hr.trans (lrun_stop hx))
          obtain ⟨AV, cV, rfl, _⟩ := hs1.toks.form
          have HE := Lib.hid (And.intro hs1 hp1)
          clear hr hs1 hp1 HX HST hx
          go_wp2_with fail
          refine bodyPost_ret (v := .tuple #[.slice AV x.out.length cV, .int .i64 0, .int .i64 0]) (by simp [results, Tryz.results13, go_sem]) rfl ?_
          have h1 := HB.out
          refine ⟨h1.1.trans (HE.out.2.below (by omega) (by omega)), ?_⟩
          rw [HR2.out]
          exact ⟨_, rfl, HE.out.1.toks.lower (by omega)⟩
      · have c0 := hrs.c0
        have c3 := hrs.c3
        have c5 := hrs.c5
        have c6 := hrs.c6
        obtain ⟨y1, y2⟩ := y
        have hy1 : (y1 == 0) = false := by rw [beq_eq_false_iff_ne]; exact hy0
        have hy2 : (y1 != 0) = true := by rw [bne_iff_ne]; exact hy0
        have HE := Lib.hid (And.intro hy hp1)
        clear hy hp1 HX HST hy0
        simp only at c5 c6
        have hrl : B < wr.heap.size := hrs.lt
        go_wp2_with fail
        refine go_start (fun w' => Below wr.heap.size wr w') [] [.p 0, .p 1, .p 2, .t 3, .p 4, .p 5, .p 6, .t 7, .p 8, .p 9, .p 10] (by kernel_rfl) (by kernel_rfl) (fun c d v a w h => by cases d <;> exact h) ((Below.refl _ wr).drew) (fun w1 hS1 => ?_)
        repeat first
        | refine go_p (v := ?_) (b := ?_) rfl (.inl ⟨by rfl, ?_⟩) ?_ ?_
          rotate_left 2
          · intro w'; go_simp; with_reducible rfl
          · simp only [Act.put, pu_, pz_, ps_, i64_w, i32_w]; rfl
        | refine go_t (v := ?_) (b := ?_) rfl (.inl ⟨by rfl, ?_⟩) ?_ ?_
          rotate_left 2
          · intro w' hS; have hc := Below.cells hS; go_simp; with_reducible rfl
          · simp only [Act.put, pu_, pz_, ps_, i64_w, i32_w]; rfl
        refine go_done ?_
        go_wp2_with fail
        refine bodyPost_ret (v := .tuple #[.slice none 0 0, .int .i64 y1, .int .i64 y2]) (by simp [results, Tryz.results13, go_sem]) rfl ?_
        have h1 := HB.out
        refine ⟨h1.1.trans ((HE.out.2.below (by omega) (by omega)).trans (hS1.mono (by have := HE.out.2.size; omega))), ?_⟩
        rw [HE.out.1]
end Go.Proofs.YtamhkdlcoghdbaaGreatDoor.PCls
/- Out of Rt (wip/tools/prune2.py): the declarations alone that the texts of the trees name. -/
namespace Go.Proofs.YtamhkdlcoghdbaaGreatDoor.PCls
open Go.RowKit Go.Shelf Go.Proofs.YtamhkdlcoghdbaaGreatDoorW.PrintWords Go.Proofs.YtamhkdlcoghdbaaGreatDoorW.PrintLast Go.Proofs.YtamhkdlcoghdbaaGreatDoorW.PrintMore
set_option linter.unusedVariables false
set_option linter.unusedSimpArgs false
def codeR : Except Er (List Tok) → Er
 | .error x => x
 | .ok _ => (0, 0)
def outR : Except Er (List Tok) → List Tok
 | .error _ => []
 | .ok l => l
theorem rlex_any {W w : World} {e : Ending} {r : Except Er (List Tok)} (h : RLexAt W w e r) : ∃ V, e = .returned (.tuple #[V, .int .i64 (codeR r).1, .int .i64 (codeR r).2]) ∧ ToksAt w W.heap.size V (outR r) ∧ Below W.heap.size W w := by
 obtain ⟨hb, hr⟩ := h
 cases r with
 | error x => exact ⟨_, hr, ToksAt.nil _ _, hb⟩
 | ok out =>
  obtain ⟨V', e1, ht⟩ := hr
  exact ⟨V', e1, ht, hb⟩
theorem lex_any {W w : World} {e : Ending} {r : Except Er (List Tok)} (h : LexAt W w e r) : ∃ (V0 V1 : Value), e = .returned (.tuple #[V0, V1]) ∧ ToksAt w W.heap.size V0 (outR r) ∧ Below W.heap.size W w ∧
  Calls Tryz.prog 15 #[V1] w (fun e w' => e = .returned (.tuple #[.int .i64 (codeR r).1, .int .i64 (codeR r).2, .bool true]) ∧ Below w.heap.size w w') := by
 obtain ⟨hb, hr⟩ := h
 cases r with
 | error x =>
  obtain ⟨g, e1, _, hgc⟩ := hr
  exact ⟨_, _, e1, ToksAt.nil _ _, hb, told_some w g x.1 x.2 hgc⟩
 | ok out =>
  obtain ⟨V', e1, ht⟩ := hr
  exact ⟨V', _, e1, ht, hb, (told_nil w).mono (fun e w' h => ⟨h.1, by rw [h.2]; exact Below.refl _ _⟩)⟩
theorem outR_len {s : ByteArray} {chars fold : Bool} : (outR (Lx.lex clC s chars fold)).length ≤ 2000 := by
 cases h : Lx.lex clC s chars fold with
 | error x => simp [outR]
 | ok out => exact lex_len h
/-- tokens that are being spoilt: those ahead of i are -/
def SpoilAt (W1 w : World) (base : Nat) (V : Value) (n i : Nat) : Prop := Below base W1 w ∧ ∃ out : List Tok, ToksAt w base V out ∧ out.length = n ∧ ∀ (j : Nat) (t : Tok), j < i → out[j]? = some t → ∀ (q : Nat) (x : S64), t.r[q]? = some x → x.f0 = -1 - (j : Int)
/-- the token i is being spoilt, up to k -/
def SpoilIn (W1 w : World) (base : Nat) (V : Value) (n i L k : Nat) : Prop := Below base W1 w ∧ ∃ (out : List Tok) (t : Tok), ToksAt w base V out ∧ out.length = n ∧ out[i]? = some t ∧ t.r.length = L ∧ (∀ (q : Nat) (x : S64), q < k → t.r[q]? = some x → x.f0 = -1 - (i : Int)) ∧ ∀ (j : Nat) (t : Tok), j < i → out[j]? = some t → ∀ (q : Nat) (x : S64), t.r[q]? = some x → x.f0 = -1 - (j : Int)
theorem SpoilAt.into {W1 w : World} {base : Nat} {V : Value} {n i : Nat} (h : SpoilAt W1 w base V n i) (hi : i < n) : ∃ L, L < 8796093022208 ∧ SpoilIn W1 w base V n i L 0 := by
 obtain ⟨hb, out, ht, hn, hs⟩ := h
 obtain ⟨t, hti⟩ : ∃ t, out[i]? = some t := ⟨_, List.getElem?_eq_getElem (by omega)⟩
 obtain ⟨_, _, _, _, _, _, _, _, _, _, _, hl, _⟩ := ht.at_ hti
 exact ⟨t.r.length, hl, hb, out, t, ht, hn, hti, rfl, fun q x h => by omega, hs⟩
theorem SpoilIn.out {W1 w : World} {base : Nat} {V : Value} {n i L : Nat} (h : SpoilIn W1 w base V n i L L) : SpoilAt W1 w base V n (i + 1) := by
 obtain ⟨hb, out, t, ht, hn, hti, hL, h1, h2⟩ := h
 refine ⟨hb, out, ht, hn, fun j u hj hu q x hx => ?_⟩
 rcases Nat.lt_or_ge j i with h | h
 ·exact h2 j u h hu q x hx
 ·obtain rfl : j = i := by omega
  rw [hti] at hu
  cases hu
  exact h1 q x (by have := (List.getElem?_eq_some_iff.1 hx).1; omega) hx
theorem SpoilIn.step {W1 w : World} {base : Nat} {V : Value} {n i L k : Nat} (h : SpoilIn W1 w base V n i L k) (hk : k < L) (hi : i ≤ 2000) :
  ∃ (gV c g cr : Nat) (lv : Int), V = .slice (some ⟨gV, 0, none⟩) n c ∧ n ≤ c ∧ i < n ∧ gV < w.heap.size ∧ w.cell? ⟨gV, i * 7 + 6, none⟩ = some (.slice (some ⟨g, 0, none⟩) L cr) ∧ L ≤ cr ∧ (∀ o, w.frozen? ⟨g, o, none⟩ = false) ∧
   (∃ x y, w.cell? ⟨g, k * 2, none⟩ = some x ∧ w.cell? ⟨g, k * 2 + 1, none⟩ = some y) ∧ SpoilIn W1 ((w.setCell ⟨g, k * 2, none⟩ (.int .i64 (-1 - (i : Int)))).setCell ⟨g, k * 2 + 1, none⟩ (.int .i64 (-9))) base V n i L (k + 1) := by
 obtain ⟨hb, out, t, ht, hn, hti, hL, h1, h2⟩ := h
 obtain ⟨gV, c, A, cr, e1, e2, e3, e4, e5, e6, e7, e8, e9, e10⟩ := ht.at_ hti
 obtain ⟨x, hx⟩ : ∃ x, t.r[k]? = some x := ⟨_, List.getElem?_eq_getElem (by omega)⟩
 obtain ⟨g, rfl, g1, g2, g3, g4, g5, g6, g7⟩ := e9 k x hx
 have hil := (List.getElem?_eq_some_iff.1 hti).1
 subst hL
 rw [hn] at e1 e2
 refine ⟨gV, c, g, cr, 0, e1, e2, by omega, e4, e6 6 _ rfl, e7, g4, ⟨_, _, g5, g6⟩, ?_⟩
 refine ⟨(hb.setCell (p := ⟨g, k * 2, none⟩) g1 _).setCell (p := ⟨g, k * 2 + 1, none⟩) g1 _, _, { t with r := t.r.set k ⟨-1 - (i : Int), -9⟩ }, g7 _ _ (by omega) (by omega) (by omega) (by omega), by rw [List.length_set]; exact hn, by rw [List.getElem?_set, if_pos rfl, if_pos hil], by simp, fun q y hq hy => ?_, fun j u hj hu => ?_⟩
 ·simp only [List.getElem?_set] at hy
  by_cases e : k = q
  ·subst e
   rw [if_pos rfl, if_pos hk] at hy
   cases hy
   rfl
  ·rw [if_neg e] at hy
   exact h1 q y (by omega) hy
 ·rw [List.getElem?_set, if_neg (by omega)] at hu
  exact h2 j u hj hu
theorem SpoilIn.look {W1 w : World} {base : Nat} {V : Value} {n i L k : Nat} (h : SpoilIn W1 w base V n i L k) :
  ∃ (gV c : Nat) (A : Option Addr) (cr : Nat), V = .slice (some ⟨gV, 0, none⟩) n c ∧ n ≤ c ∧ i < n ∧ gV < w.heap.size ∧ w.cell? ⟨gV, i * 7 + 6, none⟩ = some (.slice A L cr) := by
 obtain ⟨hb, out, t, ht, hn, hti, hL, h1, h2⟩ := h
 obtain ⟨gV, c, A, cr, e1, e2, e3, e4, e5, e6, e7, e8, e9, e10⟩ := ht.at_ hti
 have hil := (List.getElem?_eq_some_iff.1 hti).1
 rw [hn] at e1 e2
 subst hL
 exact ⟨gV, c, A, cr, e1, e2, by omega, e4, e6 6 _ rfl⟩
/-- tokens that are spoilt: what is looked up, and the next kind written -/
theorem SpoilAt.read {W1 w : World} {base : Nat} {V : Value} {n i : Nat} (h : SpoilAt W1 w base V n n) (hi : i < n) :
  ∃ (gV c : Nat) (A : Option Addr) (cr L : Nat), V = .slice (some ⟨gV, 0, none⟩) n c ∧ n ≤ c ∧ gV < w.heap.size ∧ (∀ o, w.frozen? ⟨gV, o, none⟩ = false) ∧ w.cell? ⟨gV, i * 7 + 6, none⟩ = some (.slice A L cr) ∧ (∃ z, w.cell? ⟨gV, i * 7, none⟩ = some z) ∧ L ≤ cr ∧ L < 8796093022208 ∧ (∀ k, k < L → ∃ g, A = some ⟨g, 0, none⟩ ∧ w.cell? ⟨g, k * 2, none⟩ = some (.int .i64 (-1 - (i : Int)))) ∧
   SpoilAt W1 (w.setCell ⟨gV, i * 7, none⟩ (.int .i64 (-4))) base V n n := by
 obtain ⟨hb, out, ht, hn, hs⟩ := h
 obtain ⟨t, hti⟩ : ∃ t, out[i]? = some t := ⟨_, List.getElem?_eq_getElem (by omega)⟩
 obtain ⟨gV, c, A, cr, e1, e2, e3, e4, e5, e6, e7, e8, e9, e10⟩ := ht.at_ hti
 rw [hn] at e1 e2
 refine ⟨gV, c, A, cr, t.r.length, e1, e2, e4, e5, e6 6 _ rfl, ⟨_, e6 0 _ rfl⟩, e7, e8, fun k hk => ?_, hb.setCell (p := ⟨gV, i * 7, none⟩) e3 _, _, e10 (-4), by rw [List.length_set]; exact hn, fun j u hj hu => ?_⟩
 ·obtain ⟨x, hx⟩ : ∃ x, t.r[k]? = some x := ⟨_, List.getElem?_eq_getElem hk⟩
  obtain ⟨g, e, _, _, _, _, g5, _⟩ := e9 k x hx
  rw [hs i t hi hti k x hx] at g5
  exact ⟨g, e, g5⟩
 ·rw [List.getElem?_set] at hu
  by_cases e : i = j
  ·subst e
   rw [if_pos rfl, if_pos (by omega)] at hu
   cases hu
   exact hs i t hi hti
  ·rw [if_neg e] at hu
   exact hs j u hj hu
set_option maxHeartbeats 8000000 in
set_option maxRecDepth 100000 in
theorem reads_calls (s : ByteArray) (chars fold : Bool) (W : World) (m : Int) (hT : Lib.Utf8Tabs 0 1 W) (hm : W.cell? ⟨2, 0, none⟩ = some (.int .i64 m)) (h2 : 2 < W.heap.size) (hs : s.size ≤ 140737488351232) :
  Calls Tryz.prog 3 #[.string s, .agg #[.bool chars, .bool fold]] W fun e w' => e = .returned (.bool true) ∧ Below W.heap.size W w' := by
 have hb0 := (Below.refl W.heap.size W).alloc (Nat.le_refl _) (.cells #[.bool chars, .bool fold] 23)
 have hg0 := heap_alloc_new W (.cells #[.bool chars, .bool fold] 23)
 have HX := Lib.hid (lexex_calls (W.alloc (.cells #[.bool chars, .bool fold] 23)) m ((hb0.cell (p := ⟨2, 0, none⟩) h2).trans hm) (Nat.lt_of_lt_of_le h2 hb0.size) (tabs_below hT hb0))
 have HL := Lib.hid (fun (w : World) (hb : Below W.heap.size W w) => lex_calls w s chars fold m hs ((hb.cell (p := ⟨2, 0, none⟩) h2).trans hm) (Nat.lt_of_lt_of_le h2 hb.size) (tabs_below hT hb))
 have HR := Lib.hid (fun (w : World) => rlex_calls w s chars fold hs)
 have HLEN := Lib.hid (outR_len (s := s) (chars := chars) (fold := fold))
 obtain ⟨r, hr⟩ : ∃ r, r = Lx.lex clC s chars fold := ⟨_, rfl⟩
 rw [← hr] at HL HR HLEN
 have HB0 := Lib.hid (And.intro hb0 hg0)
 clear hb0 hg0 hT hm h2 hr
 go_enter Tryz.func3, Tryz.ntmps3
 go_wp2_with fail
 refine HX.out.mono ?_
 rintro e w1 ⟨rfl, hb⟩
 have HB := Lib.hid (HB0.out.1.trans (hb.mono HB0.out.1.size))
 have hgw := (hb.block _ (Array.getElem?_eq_some_iff.1 HB0.out.2).1).trans HB0.out.2
 have k0 := lk_cell (i := 0) hgw rfl
 have k1 := lk_cell (i := 1) hgw rfl
 have HGW := Lib.hid hgw
 clear hb hgw HX HB0
 go_wp2_with fail
 refine (HR.out w1).mono ?_
 intro e w2 hr
 obtain ⟨V6, rfl, ht6, hb2⟩ := rlex_any hr
 have HB2 := Lib.hid (Below.up HB.out hb2)
 have hg2 := (hb2.block _ (Array.getElem?_eq_some_iff.1 HGW.out).1).trans HGW.out
 have HG2 := Lib.hid hg2
 have HT6 := Lib.hid ht6
 obtain ⟨c0, hc0⟩ : ∃ c, c = (codeR r).1 := ⟨_, rfl⟩
 obtain ⟨p0, hp0⟩ : ∃ p, p = (codeR r).2 := ⟨_, rfl⟩
 rw [← hc0, ← hp0]
 have HC := Lib.hid (And.intro hc0 hp0)
 clear hc0 hp0 hr ht6 hb2 hg2 k0 k1 HR HGW HB
 go_wp2_with fail
 go_loopg [9] 2 (fun gg s9 wr => ∃ (i : Nat), i ≤ 2 ∧ s9 = .int .i64 i ∧ Aside0 (Below w2.heap.size w2 wr) ∧ 2 - i ≤ gg)
 case atStart => exact ⟨0, by omega, rfl, ⟨Below.refl _ _⟩, by omega⟩
 case round =>
  obtain ⟨i, hi, rfl, HW, hgg⟩ := hrel
  by_cases hlt : i < 2
  ·have hlz : (i : Int) < 2 := by omega
   have hg3 := (HW.out.block _ (Array.getElem?_eq_some_iff.1 HG2.out).1).trans HG2.out
   have k0 := lk_cell (i := 0) hg3 rfl
   have k1 := lk_cell (i := 1) hg3 rfl
   clear hg3
   go_wp2_with fail
   refine (HL.out wr (Below.up HB2.out HW.out)).mono ?_
   intro e w4 hl
   obtain ⟨V0, V1, rfl, ht0, hb4, htd⟩ := lex_any hl
   have HB4 := Lib.hid (Below.up HW.out hb4)
   have HT0 := Lib.hid ht0
   rw [← HC.out.1, ← HC.out.2] at htd
   have HTD := Lib.hid htd
   have HWS := Lib.hid (And.intro hb4 HW.out)
   clear hl ht0 hb4 htd k0 k1
   go_wp2_with fail
   refine HTD.out.mono ?_
   rintro e w5 ⟨rfl, hb5⟩
   have HB5 := Lib.hid (Below.up HB4.out hb5)
   have HT5 := Lib.hid (HT0.out.move (B := w5) (fun k _ hk => hb5.block k hk))
   have HT6' := Lib.hid (HT6.out.move (B := w5) (fun k _ hk => HB5.out.block k hk))
   have HZ := Lib.hid (show wr.heap.size ≤ w5.heap.size from Nat.le_trans HWS.out.1.size hb5.size)
   clear hb5 HTD HT0
   go_wp2_with fail
   refine (toksame_calls w5 _ V0 V6 _ _ HT5.out HT6'.out (by have := HLEN.out; omega)).mono ?_
   rintro e w6 ⟨rfl, hb6⟩
   have HB6 := Lib.hid (Below.up HB5.out hb6)
   have HT7 := Lib.hid (HT5.out.move (B := w6) (fun k _ hk => hb6.block k hk))
   have hst : SpoilAt w6 w6 wr.heap.size V0 (outR r).length 0 := ⟨Below.refl _ _, _, HT7.out, rfl, fun j t hj => by omega⟩
   have HZ6 := Lib.hid (Nat.le_trans HZ.out hb6.size)
   obtain ⟨bs, hbs⟩ : ∃ b, b = wr.heap.size := ⟨_, rfl⟩
   rw [← hbs] at hst
   have HBS := Lib.hid (show w2.heap.size ≤ bs by rw [hbs]; exact HW.out.size)
   clear hbs
   obtain ⟨n, hn⟩ : ∃ n, n = (outR r).length := ⟨_, rfl⟩
   have hn9 : n ≤ 2000 := by rw [hn]; exact HLEN.out
   rw [← hn] at hst
   obtain ⟨A0, cp0, rfl, _, _⟩ := HT7.out.form
   rw [← hn] at hst ⊢
   have HST := Lib.hid hst
   clear hb6 hst HT5 HT6' HT7 HZ hn HB4 HB5 HWS
   go_wp2_with fail
   go_loopg [16] n (fun gg s16 wx => ∃ (j : Nat), j ≤ n ∧ s16 = .int .i64 j ∧ Aside0 (SpoilAt w6 wx bs (.slice A0 n cp0) n j) ∧ n - j ≤ gg)
   case atStart => exact ⟨0, by omega, rfl, ⟨HST.out⟩, by omega⟩
   case round =>
    obtain ⟨j, hj, rfl, HS, hgj⟩ := hrel
    by_cases hjl : j < n
    ·have hjz : (j : Int) < (n : Int) := by omega
     obtain ⟨L, hL9, hin⟩ := HS.out.into hjl
     have HIN := Lib.hid hin
     clear hin HST
     go_wp2_with fail
     go_loopg [17] L (fun gg s17 wx => ∃ (k : Nat), k ≤ L ∧ s17 = .int .i64 k ∧ Aside0 (SpoilIn w6 wx bs (.slice A0 n cp0) n j L k) ∧ L - k ≤ gg)
     case atStart => exact ⟨0, by omega, rfl, ⟨HIN.out⟩, by omega⟩
     case round =>
      obtain ⟨k, hk, rfl, HI, hgk⟩ := hrel
      by_cases hkl : k < L
      ·have hkz : (k : Int) < (L : Int) := by omega
       obtain ⟨gV, c, g, cr, lv, eV, q1, q2, q3, q4, q5, q6, ⟨x, y, q7, q8⟩, q9⟩ := HI.out.step hkl (by omega)
       cases eV
       have HQ := Lib.hid q9
       have hk9 : k + 1 < 900000000000000 := by omega
       clear q9 HIN
       go_wp2_with fail
       go_roundg (L - (k + 1))
       case measure => omega
       case rel => exact ⟨k + 1, hkl, by go_num, ⟨HQ.out⟩, Nat.le_refl _⟩
      ·have hkz : ¬ (k : Int) < (L : Int) := by omega
       obtain rfl : k = L := by omega
       obtain ⟨gV, c, A, cr, eV, q1, q2, q3, q4⟩ := HI.out.look
       cases eV
       have hj9 : j + 1 < 900000000000000 := by omega
       clear HIN
       go_wp2_with fail
       go_roundg (n - (j + 1))
       case measure => omega
       case rel => exact ⟨j + 1, hjl, by go_num, ⟨HI.out.out⟩, Nat.le_refl _⟩
    ·have hjz : ¬ (j : Int) < (n : Int) := by omega
     obtain rfl : j = n := by omega
     have HSN := Lib.hid HS.out
     clear HST HS
     go_wp2_with fail
     go_loopg [18] j (fun gg s18 wx => ∃ (i2 : Nat), i2 ≤ j ∧ s18 = .int .i64 i2 ∧ Aside0 (SpoilAt w6 wx bs (.slice A0 j cp0) j j) ∧ j - i2 ≤ gg)
     case atStart => exact ⟨0, by omega, rfl, ⟨HSN.out⟩, by omega⟩
     case round =>
      obtain ⟨i2, hi2, rfl, HS2, hg2⟩ := hrel
      by_cases hil : i2 < j
      ·have hiz : (i2 : Int) < (j : Int) := by omega
       obtain ⟨gV, c, A, cr, L, eV, q1, q2, q3, q4, ⟨z, q5⟩, q6, q7, q8, q9⟩ := HS2.out.read hil
       cases eV
       have HQ := Lib.hid (And.intro q8 q9)
       obtain ⟨wx, rfl⟩ : ∃ x : World, x = wr := ⟨wr, rfl⟩
       have hi9 : i2 + 1 < 900000000000000 := by omega
       clear q8 q9 HSN
       go_wp2_with fail
       go_loopg [19] L (fun gg s19 wy => ∃ (k : Nat), k ≤ L ∧ s19 = .int .i64 k ∧ Aside0 (wy = wx) ∧ L - k ≤ gg)
       case atStart => exact ⟨0, by omega, rfl, ⟨rfl⟩, by omega⟩
       case round =>
        obtain ⟨k, hk, rfl, HY, hgk⟩ := hrel
        have hy := HY.out
        subst hy
        clear HY
        by_cases hkl : k < L
        ·have hkz : (k : Int) < (L : Int) := by omega
         obtain ⟨g, rfl, q8⟩ := HQ.out.1 k hkl
         have hk9 : k + 1 < 900000000000000 := by omega
         go_wp2_with fail
         go_roundg (L - (k + 1))
         case measure => omega
         case rel => exact ⟨k + 1, hkl, by go_num, ⟨rfl⟩, Nat.le_refl _⟩
        ·have hkz : ¬ (k : Int) < (L : Int) := by omega
         go_wp2_with fail
         go_roundg (j - (i2 + 1))
         case measure => omega
         case rel => exact ⟨i2 + 1, hil, by go_num, ⟨HQ.out.2⟩, Nat.le_refl _⟩
      ·have hiz : ¬ (i2 : Int) < (j : Int) := by omega
       have hi9 : i + 1 < 900000000000000 := by omega
       have HE := Lib.hid (show Below w2.heap.size w2 wr from HB6.out.trans (HS2.out.1.mono HBS.out))
       clear HSN HS2
       go_wp2_with fail
       go_roundg (2 - (i + 1))
       case measure => omega
       case rel => exact ⟨i + 1, hlt, by go_num, ⟨HE.out⟩, Nat.le_refl _⟩
  ·have hlz : ¬ (i : Int) < 2 := by omega
   go_wp2_with fail
   go_ret
   exact ⟨rfl, Below.up HB2.out HW.out⟩
end Go.Proofs.YtamhkdlcoghdbaaGreatDoor.PCls
