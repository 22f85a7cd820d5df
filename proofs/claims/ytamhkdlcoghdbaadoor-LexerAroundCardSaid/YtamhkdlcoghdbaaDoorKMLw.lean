/- Put together (wip/tools/pack.py): Lw, Lz, L1, Ly, Lf. -/
import Derived.Test.YtamhkdlcoghdbaaDoorKMLe
/- The lexer, walked. -/
namespace Go.Proofs.YtamhkdlcoghdbaaDoor.PCls
open Go.RowKit Go.Shelf Go.Proofs.YtamhkdlcoghdbaaDoorW.PrintWords Go.Proofs.YtamhkdlcoghdbaaDoorW.PrintLast Go.Proofs.YtamhkdlcoghdbaaDoorW.PrintMore
set_option linter.unusedVariables false
set_option linter.unusedSimpArgs false

/-- what Lex hands back -/
def LexAt (W w' : World) (e : Ending) (r : Except Er (List Tok)) : Prop := Below W.heap.size W w' ∧ match r with
 | .error x => ∃ g, e = .returned (.tuple #[.slice none 0 0, .iface 82 (.pointer (some ⟨g, 0, none⟩))]) ∧ W.heap.size ≤ g ∧ w'.heap[g]? = some (.cells #[.int .i64 x.1, .int .i64 x.2] 89 (0, 0))
 | .ok out => ∃ V', e = .returned (.tuple #[V', .nilIface]) ∧ ToksAt w' W.heap.size V' out
theorem alloc_at {w : World} {o : Obj} {n : Nat} (h : n = w.heap.size) : (w.alloc o).heap[n]? = some o := by subst h; exact heap_alloc_new w o
theorem ToksAt.lower {W : World} {base b : Nat} {V : Value} {out : List Tok} (h : ToksAt W base V out) (hb : b ≤ base) : ToksAt W b V out := by
 obtain ⟨cs, rv, h1, h2, h3⟩ := h
 refine ⟨cs, rv, h1, own_weaken h2 hb, fun j t ht => ?_⟩
 obtain ⟨e, ⟨o1, o2⟩, hd⟩ := h3 j t ht
 exact ⟨e, ⟨own_weaken o1 hb, o2⟩, hd⟩
theorem often_put {s : ByteArray} {x y : Lx.St} {c e : Nat} (h : Lx.often s x c e = .ok y) : ∃ t n, y = Lx.put x t n := by
 unfold Lx.often at h
 split at h
 ·cases h
 split at h
 ·cases h; exact ⟨_, _, rfl⟩
 split at h
 ·cases h; exact ⟨_, _, rfl⟩
 split at h
 ·cases h
 ·cases h; exact ⟨_, _, rfl⟩
theorem escape_put {C : CL} {s : ByteArray} {fold : Bool} {x y : Lx.St} (h : Lx.escape C s fold x = .ok y) : ∃ t n, y = Lx.put x t n := by
 unfold Lx.escape at h
 split at h
 ·cases h
 simp only at h
 repeat first
  | (split at h; · (cases h; exact ⟨_, _, rfl⟩))
  | (split at h; · exact often_put h)
 cases h
theorem bracket_put {C : CL} {s : ByteArray} {chars fold : Bool} {x y : Lx.St} (h : Lx.bracket C s chars fold x = .ok y) : ∃ t n, y = Lx.put x t n := by
 unfold Lx.bracket at h
 simp only at h
 split at h
 ·cases h
 ·cases h; exact ⟨_, _, rfl⟩
theorem next_put {s : ByteArray} {chars fold : Bool} {x y : Lx.St} (h : Lx.next clC s chars fold x = .ok y) : ∃ t n, y = Lx.put x t n := by
 rw [next_eq] at h
 split at h
 ·cases h
 split at h
 ·exact escape_put h
 split at h
 ·exact bracket_put h
 repeat (split at h; · (cases h; exact ⟨_, _, rfl⟩))
 cases h; exact ⟨_, _, rfl⟩
theorem next_length {s : ByteArray} {chars fold : Bool} {x y : Lx.St} (h : Lx.next clC s chars fold x = .ok y) : y.out.length = x.out.length + 1 := by
 obtain ⟨t, n, rfl⟩ := next_put h
 simp [Lx.put]
theorem run_stop {s : ByteArray} {chars fold : Bool} {k : Nat} {x : Lx.St} (h : ¬ x.sat < s.size) : Lx.run clC s chars fold k x = .ok x.out := by
 cases k with
 | zero => rfl
 | succ k => unfold Lx.run; rw [if_neg h]
theorem run_step {s : ByteArray} {chars fold : Bool} {k : Nat} {x : Lx.St} (h : x.sat < s.size) : Lx.run clC s chars fold (k + 1) x = match Lx.next clC s chars fold x with
  | .error e => .error e
  | .ok y => Lx.run clC s chars fold k y := by
 conv => lhs; unfold Lx.run
 rw [if_pos h]
 rfl
theorem lex_results (tmps : Array Value) (w : World) (a b : Nat) (va vb : Value) (h4 : tmps.getD 4 undef = .pointer (some ⟨a, 0, none⟩)) (h5 : tmps.getD 5 undef = .pointer (some ⟨b, 0, none⟩)) (ho : w.heap[a]? = some (.cells #[va] 39 (0, 0))) (he : w.heap[b]? = some (.cells #[vb] 41 (0, 0))) :
  (results Tryd.f17 tmps).run Tryd.prog w = .ok (.tuple #[va, vb]) w := by
 have h4' : tmps[4]?.getD undef = .pointer (some ⟨a, 0, none⟩) := by simpa using h4
 have h5' : tmps[5]?.getD undef = .pointer (some ⟨b, 0, none⟩) := by simpa using h5
 have c1 := lk_cell (i := 0) ho rfl
 have c2 := lk_cell (i := 0) he rfl
 simp only [results, show Tryd.f17.results = #[.cell 4 39, .cell 5 41] from rfl]
 simp [Sem.run_bind, Result.andThen, h4', h5', go_sem, c1, c2]
theorem lex_panic (W w : World) (s : ByteArray) (chars fold : Bool) (tmps : Array Value) (g : Nat) (c p : Int) (h4 : tmps.getD 4 undef = .pointer (some ⟨W.heap.size + 1, 0, none⟩)) (h5 : tmps.getD 5 undef = .pointer (some ⟨W.heap.size + 1 + 1, 0, none⟩))
  (ho : w.heap[W.heap.size + 1]? = some (.cells #[.slice none 0 0] 39 (0, 0))) (he : w.heap[W.heap.size + 1 + 1]? = some (.cells #[.nilIface] 41 (0, 0))) (hb : Below W.heap.size W w) (hg : W.heap.size + 3 ≤ g) (hgc : w.heap[g]? = some (.cells #[.int .i64 c, .int .i64 p] 89 (0, 0)))
  (HX : Lx.lex clC s chars fold = .error (c, p)) :
  Leaves Tryd.prog Tryd.f17 tmps (fun e w' => LexAt W w' e (Lx.lex clC s chars fold)) [{ target := Target.fn (Fn.func 47) #[.pointer (some ⟨W.heap.size + 1, 0, none⟩), .pointer (some ⟨W.heap.size + 1 + 1, 0, none⟩)], args := #[] }] (.panicking [⟨.iface 82 (.pointer (some ⟨g, 0, none⟩)), false, false⟩]) w := by
 refine leaves_cons (f := 47) (args := #[.pointer (some ⟨W.heap.size + 1, 0, none⟩), .pointer (some ⟨W.heap.size + 1 + 1, 0, none⟩)]) (by simp) (by simp [go_sem]) ?_
 refine (catch_panicking (W.heap.size + 1) (W.heap.size + 1 + 1) g _ w [] ho he (by omega)).mono ?_
 rintro e u' w'' ⟨rfl, rfl, rfl⟩
 have ho1 := set_blk (W := w.drew) ho 0 (.slice none 0 0)
 have he1 := (Below.heap_setCell w.drew ⟨W.heap.size + 1, 0, none⟩ (.slice none 0 0) (W.heap.size + 1 + 1) (by simp)).trans he
 have ho2 := (Below.heap_setCell (w.drew.setCell ⟨W.heap.size + 1, 0, none⟩ (.slice none 0 0)) ⟨W.heap.size + 1 + 1, 0, none⟩ (.iface 82 (.pointer (some ⟨g, 0, none⟩))) (W.heap.size + 1) (by simp)).trans ho1
 have he2 := set_blk he1 0 (.iface 82 (.pointer (some ⟨g, 0, none⟩)))
 have hg2 := (Below.heap_setCell (w.drew.setCell ⟨W.heap.size + 1, 0, none⟩ (.slice none 0 0)) ⟨W.heap.size + 1 + 1, 0, none⟩ (.iface 82 (.pointer (some ⟨g, 0, none⟩))) g (by simp only; omega)).trans ((Below.heap_setCell w.drew ⟨W.heap.size + 1, 0, none⟩ (.slice none 0 0) g (by simp only; omega)).trans hgc)
 have hb2 := ((hb.drew).setCell (p := ⟨W.heap.size + 1, 0, none⟩) (Nat.le_succ _) (.slice none 0 0)).setCell (p := ⟨W.heap.size + 1 + 1, 0, none⟩) (by simp only; omega) (.iface 82 (.pointer (some ⟨g, 0, none⟩)))
 exact ⟨_, lex_results tmps _ _ _ _ _ h4 h5 ho2 he2, hb2, by rw [HX]; exact ⟨g, rfl, by omega, hg2⟩⟩
theorem lex_return (W w : World) (s : ByteArray) (chars fold : Bool) (tmps : Array Value) (V : Value) (out : List Tok) (h4 : tmps.getD 4 undef = .pointer (some ⟨W.heap.size + 1, 0, none⟩)) (h5 : tmps.getD 5 undef = .pointer (some ⟨W.heap.size + 1 + 1, 0, none⟩))
  (ho : w.heap[W.heap.size + 1]? = some (.cells #[V] 39 (0, 0))) (he : w.heap[W.heap.size + 1 + 1]? = some (.cells #[.nilIface] 41 (0, 0))) (hb : Below W.heap.size W w) (ht : ToksAt w W.heap.size V out)
  (HX : Lx.lex clC s chars fold = .ok out) :
  Leaves Tryd.prog Tryd.f17 tmps (fun e w' => LexAt W w' e (Lx.lex clC s chars fold)) [{ target := Target.fn (Fn.func 47) #[.pointer (some ⟨W.heap.size + 1, 0, none⟩), .pointer (some ⟨W.heap.size + 1 + 1, 0, none⟩)], args := #[] }] .returning w := by
 refine leaves_cons (f := 47) (args := #[.pointer (some ⟨W.heap.size + 1, 0, none⟩), .pointer (some ⟨W.heap.size + 1 + 1, 0, none⟩)]) (by simp) (by simp [go_sem]) ?_
 refine (catch_idle ⟨W.heap.size + 1, 0, none⟩ ⟨W.heap.size + 1 + 1, 0, none⟩ w).mono ?_
 rintro e u' w'' ⟨rfl, rfl, rfl⟩
 exact ⟨_, lex_results tmps _ _ _ _ _ h4 h5 ho he, hb, by rw [HX]; exact ⟨V, rfl, ht⟩⟩
set_option maxHeartbeats 4000000 in
set_option maxRecDepth 100000 in
theorem lex_calls (W : World) (s : ByteArray) (chars fold : Bool) (m : Int) (hs : s.size ≤ 140737488351232) (hm : W.cell? ⟨2, 0, none⟩ = some (.int .i64 m)) (h2 : 2 < W.heap.size) (hT : Lib.Utf8Tabs 0 1 W) :
  Calls Tryd.prog 17 #[.string s, .agg #[.bool chars, .bool fold]] W fun e w' => LexAt W w' e (Lx.lex clC s chars fold) := by
 have hmf : ∀ (fn : Fn) (first cap : Array Value) (w : World), (Instr.makeFunc fn first cap).run Tryd.prog w = .ok (.func fn first cap) w := fun _ _ _ _ => rfl
 have hb1 := (Below.refl W.heap.size W).alloc (Nat.le_refl _) (.cells #[.bool chars, .bool fold] 23)
 have hb2 := hb1.alloc hb1.size (.cells #[.slice none 0 0] 39)
 have hb3 := hb2.alloc hb2.size (.cells #[.nilIface] 41)
 by_cases hbig : 2000 < s.size
 ·have HX := Lib.hid (show Lx.lex clC s chars fold = .error (30, 0) by unfold Lx.lex; rw [if_pos hbig])
  have hbi : (2000 : Int) < (s.size : Int) := by omega
  clear hm h2 hT
  go_enter_defers Tryd.func17, Tryd.ntmps17
  go_wp2_with fail
  generalize hW3 : ((W.alloc (.cells #[.bool chars, .bool fold] 23)).alloc (.cells #[.slice none 0 0] 39)).alloc (.cells #[.nilIface] 41) = W3
  have hz3 : W3.heap.size = W.heap.size + 1 + 1 + 1 := by rw [← hW3]; simp
  have ho : W3.heap[W.heap.size + 1]? = some (.cells #[.slice none 0 0] 39 (0, 0)) := by rw [← hW3]; exact (heap_alloc_old _ _ (by simp)).trans (heap_alloc2_new W _ _)
  have he : W3.heap[W.heap.size + 1 + 1]? = some (.cells #[.nilIface] 41 (0, 0)) := by rw [← hW3]; exact alloc_at (by simp)
  rw [hW3] at hb3
  refine (fail_calls _ _ _).mono ?_
  rintro e w2 ⟨⟨g, rfl, hg, hgc⟩, hb⟩
  exact lex_panic W w2 s chars fold _ g 30 0 rfl rfl ((hb.block _ (by omega)).trans ho) ((hb.block _ (by omega)).trans he) (Below.up hb3 hb) (by omega) hgc HX.out
 ·have HX := Lib.hid (show Lx.lex clC s chars fold = Lx.run clC s chars fold (s.size + 1) ⟨0, []⟩ by unfold Lx.lex; rw [if_neg hbig])
  have hbi : ¬ (2000 : Int) < (s.size : Int) := by omega
  go_enter_defers Tryd.func17, Tryd.ntmps17
  go_wp2_with fail
  generalize hW3 : ((W.alloc (.cells #[.bool chars, .bool fold] 23)).alloc (.cells #[.slice none 0 0] 39)).alloc (.cells #[.nilIface] 41) = W3
  have hz3 : W3.heap.size = W.heap.size + 1 + 1 + 1 := by rw [← hW3]; simp
  have ho3 : W3.heap[W.heap.size + 1]? = some (.cells #[.slice none 0 0] 39 (0, 0)) := by rw [← hW3]; exact (heap_alloc_old _ _ (by simp)).trans (heap_alloc2_new W _ _)
  have he3 : W3.heap[W.heap.size + 1 + 1]? = some (.cells #[.nilIface] 41 (0, 0)) := by rw [← hW3]; exact alloc_at (by simp)
  rw [hW3] at hb3
  have hb4 := hb3.alloc hb3.size (.cells #[.string s, .bool chars, .bool fold, .int .i64 0, .slice none 0 0] 86)
  generalize hW4 : W3.alloc (.cells #[.string s, .bool chars, .bool fold, .int .i64 0, .slice none 0 0] 86) = W4
  rw [hW4] at hb4
  have hz4 : W4.heap.size = W.heap.size + 1 + 1 + 1 + 1 := by rw [← hW4]; simp [hz3]
  have ho : W4.heap[W.heap.size + 1]? = some (.cells #[.slice none 0 0] 39 (0, 0)) := by rw [← hW4]; exact (heap_alloc_old _ _ (by omega)).trans ho3
  have he : W4.heap[W.heap.size + 1 + 1]? = some (.cells #[.nilIface] 41 (0, 0)) := by rw [← hW4]; exact (heap_alloc_old _ _ (by omega)).trans he3
  obtain ⟨B, hB⟩ : ∃ B, B = W.heap.size + 1 + 1 + 1 := ⟨_, rfl⟩
  have hst : ScSt W4 B (B + 1) s chars fold ⟨0, []⟩ (.slice none 0 0) := ⟨by rw [← hW4]; exact alloc_at (by omega), ToksAt.nil _ _, Nat.lt_succ_self _, by omega, Nat.le_refl _, Nat.zero_le _, by show s.size ≤ 2000; omega⟩
  rw [← hB]
  have HOE := Lib.hid (And.intro ho (And.intro he (And.intro hb4 (And.intro hB hz4))))
  have HM := Lib.hid (fun (w : World) (hb : Below W.heap.size W w) => (hb.cell (p := ⟨2, 0, none⟩) h2).trans hm)
  have HM2 := Lib.hid (fun (w : World) (hb : Below W.heap.size W w) => Nat.lt_of_lt_of_le h2 hb.size)
  have HT := Lib.hid hT
  have HST := Lib.hid hst
  clear hst hB ho he hb4 hW4 hz4 hW3 hz3 ho3 he3 hb3 hb2 hb1 hm h2 hT
  go_loopg [24] (s.size + 1) (fun gg _ wr => ∃ (x : Lx.St) (V : Value) (k : Nat), Aside0 (ScSt wr B (B + 1) s chars fold x V) ∧ Aside0 (Stp W4 wr B (B + 1)) ∧ s.size + 1 ≤ x.out.length + k ∧ s.size + 1 - x.out.length ≤ gg ∧ Hid (Lx.lex clC s chars fold = Lx.run clC s chars fold k x))
  case atStart => exact ⟨⟨0, []⟩, .slice none 0 0, s.size + 1, ⟨HST.out⟩, ⟨⟨rfl, rfl, rfl, Nat.le_refl _, fun _ _ _ => rfl⟩⟩, by simp, by simp, HX⟩
  case round =>
   obtain ⟨x, V, k, HS, HP, hk, hgg, HR⟩ := hrel
   have c0 := HS.out.sc.c0
   have c3 := HS.out.sc.c3
   have hlen := HS.out.len
   have hbw : Below W.heap.size W wr := Below.trans HOE.out.2.2.1 (HP.out.below (by have := HOE.out.2.2.2.1; omega) (by have := HOE.out.2.2.2.1; omega))
   by_cases hx : x.sat < s.size
   ·obtain ⟨k, rfl⟩ : ∃ j, k = j + 1 := ⟨k - 1, by omega⟩
    have HN := Lib.hid (next_calls wr B (B + 1) s chars fold x V m HS.out hx (HM.out wr hbw) (HM2.out wr hbw) (tabs_below HT.out hbw))
    have hlt : (x.sat : Int) < (s.size : Int) := by omega
    have HR2 := Lib.hid (HR.out.trans (run_step hx))
    have HBW := Lib.hid hbw
    clear HR hbw HX
    go_wp2_with fail
    refine HN.out.mono ?_
    intro e w2 hst
    clear HN
    cases hn : Lx.next clC s chars fold x with
    | error y =>
     rw [hn] at hst
     obtain ⟨⟨g, rfl, hg, hgc⟩, hb⟩ := hst
     have hXX := HR2.out.trans (by rw [hn])
     have hoo := HOE.out
     have hzz := HP.out.size
     exact lex_panic W w2 s chars fold _ g y.1 y.2 rfl rfl ((hb.block _ (by omega)).trans ((HP.out.block _ (by omega) (by omega)).trans hoo.1)) ((hb.block _ (by omega)).trans ((HP.out.block _ (by omega) (by omega)).trans hoo.2.1)) (Below.up HBW.out hb) (by omega) hgc hXX
    | ok y =>
     rw [hn] at hst
     obtain ⟨rfl, ⟨V', hs'⟩, hp'⟩ := hst
     have HR3 := Lib.hid (HR2.out.trans (by rw [hn]))
     have hyl := next_length hn
     have HS2 := Lib.hid hs'
     have HP2 := Lib.hid (HP.out.trans hp')
     clear hs' hp' hn HR2 HP HS HBW hlt c0 c3
     go_wp2_with fail
     go_roundg (s.size + 1 - y.out.length)
     case measure => omega
     case rel => exact ⟨y, V', k, ⟨HS2.out⟩, ⟨HP2.out⟩, by omega, Nat.le_refl _, HR3⟩
   ·obtain ⟨AV, cV, rfl, _⟩ := HS.out.toks.form
    have hlt : ¬ (x.sat : Int) < (s.size : Int) := by omega
    have HR2 := Lib.hid (HR.out.trans (run_stop hx))
    have hoo := HOE.out
    have ho2 := (HP.out.block _ (by omega) (by omega)).trans hoo.1
    have he2 := (HP.out.block _ (by omega) (by omega)).trans hoo.2.1
    have hfo : ∀ o, wr.frozen? ⟨W.heap.size + 1, o, none⟩ = false := fun o => by simp only [World.frozen?, ho2]; simp
    have hfe : ∀ o, wr.frozen? ⟨W.heap.size + 1 + 1, o, none⟩ = false := fun o => by simp only [World.frozen?, he2]; simp
    have co := lk_cell (i := 0) ho2 rfl
    have ce := lk_cell (i := 0) he2 rfl
    have c4 := HS.out.sc.c4
    have HZ := Lib.hid (And.intro ho2 (And.intro he2 hbw))
    clear hoo ho2 he2 hbw HR HX
    go_wp2_with fail
    have hoo := HOE.out
    have ho1 := set_blk HZ.out.1 0 (.slice AV x.out.length cV)
    have he1 := (Below.heap_setCell wr ⟨W.heap.size + 1, 0, none⟩ (.slice AV x.out.length cV) (W.heap.size + 1 + 1) (by simp)).trans HZ.out.2.1
    have ho2 := (Below.heap_setCell (wr.setCell ⟨W.heap.size + 1, 0, none⟩ (.slice AV x.out.length cV)) ⟨W.heap.size + 1 + 1, 0, none⟩ .nilIface (W.heap.size + 1) (by simp)).trans ho1
    have he2 := set_blk he1 0 .nilIface
    have hb2 := (HZ.out.2.2.setCell (p := ⟨W.heap.size + 1, 0, none⟩) (Nat.le_succ _) (.slice AV x.out.length cV)).setCell (p := ⟨W.heap.size + 1 + 1, 0, none⟩) (by simp only; omega) .nilIface
    have ht : ToksAt ((wr.setCell ⟨W.heap.size + 1, 0, none⟩ (.slice AV x.out.length cV)).setCell ⟨W.heap.size + 1 + 1, 0, none⟩ .nilIface) (B + 1) (.slice AV x.out.length cV) x.out := HS.out.toks.move (fun k hk _ => (Below.heap_setCell _ ⟨W.heap.size + 1 + 1, 0, none⟩ .nilIface k (by simp only; omega)).trans (Below.heap_setCell wr ⟨W.heap.size + 1, 0, none⟩ (.slice AV x.out.length cV) k (by simp only; omega)))
    exact lex_return W _ s chars fold _ _ x.out rfl rfl ho2 he2 hb2 (ht.lower (by omega)) HR2.out
end Go.Proofs.YtamhkdlcoghdbaaDoor.PCls
/- The laws over the lexer: what is told of an error. -/
namespace Go.Proofs.YtamhkdlcoghdbaaDoor.PCls
open Go.RowKit Go.Shelf Go.Proofs.YtamhkdlcoghdbaaDoorW.PrintWords Go.Proofs.YtamhkdlcoghdbaaDoorW.PrintLast Go.Proofs.YtamhkdlcoghdbaaDoorW.PrintMore
set_option linter.unusedVariables false
set_option linter.unusedSimpArgs false

theorem run_asserted2 (t xT e : TypeId) (v : Value) (w : World) (h : Tryd.prog.underlying t = some (.pointer e)) : (Instr.typeAssert (.iface t v) xT t true).run Tryd.prog w = .ok (.tuple #[v, .bool true]) w := by
  simp [Instr.typeAssert, run_underlying h, go_sem, Result.andThen]
set_option maxHeartbeats 4000000 in
theorem told_nil (w : World) : Calls Tryd.prog 18 #[.nilIface] w fun e w' => e = .returned (.tuple #[.int .i64 0, .int .i64 0, .bool true]) ∧ w' = w := by
  go_enter Tryd.func18, Tryd.ntmps18
  go_wp2_with fail
  go_ret3
  exact ⟨rfl, rfl⟩
set_option maxHeartbeats 4000000 in
set_option maxRecDepth 100000 in
theorem told_some (w : World) (g : Nat) (c p : Int) (hg : w.heap[g]? = some (.cells #[.int .i64 c, .int .i64 p] 89 (0, 0))) :
    Calls Tryd.prog 18 #[.iface 82 (.pointer (some ⟨g, 0, none⟩))] w fun e w' => e = .returned (.tuple #[.int .i64 c, .int .i64 p, .bool true]) ∧ Below w.heap.size w w' := by
  have hta : ∀ w', (Instr.typeAssert (.iface 82 (.pointer (some ⟨g, 0, none⟩))) 41 82 true).run Tryd.prog w' = .ok (.tuple #[.pointer (some ⟨g, 0, none⟩), .bool true]) w' := fun w' => run_asserted2 82 41 _ _ w' Tryd.underlying82
  have k0 := lk_cell (i := 0) hg rfl
  have k1 := lk_cell (i := 1) hg rfl
  have hgl : g < w.heap.size := (Array.getElem?_eq_some_iff.1 hg).1
  go_enter Tryd.func18, Tryd.ntmps18
  go_wp2_with fail
  refine go_start (fun w' => Below w.heap.size w w') [] [.p 0, .p 1, .p 2, .t 3, .p 4, .p 5, .p 6, .t 7, .p 8, .p 9, .p 10] (by kernel_rfl) (by kernel_rfl) (fun c d v a w h => by cases d <;> exact h) ((Below.refl _ w).drew) (fun w2 hS2 => ?_)
  repeat first
  | refine go_p (v := ?_) (b := ?_) rfl (.inl ⟨by rfl, ?_⟩) ?_ ?_
    rotate_left 2
    · intro w'; go_simp; with_reducible rfl
    · simp only [Act.put, pu_, pz_, ps_, i64_w, i32_w]; rfl
  | refine go_t (v := ?_) (b := ?_) rfl (.inl ⟨by rfl, ?_⟩) ?_ ?_
    rotate_left 2
    · intro w' hS; have hc := Below.cells hS; go_simp; with_reducible rfl
    · simp only [Act.put, pu_, pz_, ps_, i64_w, i32_w]; rfl
  refine go_done ?_
  go_wp2_with fail
  go_ret3
  exact ⟨rfl, hS2⟩
set_option maxHeartbeats 4000000 in
set_option maxRecDepth 100000 in
theorem wrong_calls (w : World) (s : ByteArray) (c p m : Int) (hs : s.size ≤ 140737488351232) (hm : w.cell? ⟨2, 0, none⟩ = some (.int .i64 m)) (h2 : 2 < w.heap.size) (hT : Lib.Utf8Tabs 0 1 w) (h : Lx.lex clC s false false = .error (c, p)) :
    Calls Tryd.prog 46 #[.string s, .int .i64 c, .int .i64 p] w fun e w' => e = .returned (.bool true) ∧ Below w.heap.size w w' := by
  have HL := Lib.hid (lex_calls w s false false m hs hm h2 hT)
  rw [h] at HL
  clear hm h2 hT h
  go_enter Tryd.func46, Tryd.ntmps46
  go_wp2_with fail
  refine HL.out.mono ?_
  rintro e w1 ⟨hb, g, rfl, hg, hgc⟩
  have HB := Lib.hid hb
  have HT := Lib.hid (told_some w1 g c p hgc)
  clear hb hg hgc HL
  go_wp2_with fail
  refine HT.out.mono ?_
  rintro e w2 ⟨rfl, hb⟩
  have HB2 := Lib.hid (Below.up HB.out hb)
  clear hb HT
  go_wp2_with fail
  go_ret
  exact ⟨rfl, HB2.out⟩
theorem ex_a : Lx.lex clC ⟨#[97, 42]⟩ false false = .ok [⟨1, 0, 1, 0, 0, 0, [⟨97, 97⟩]⟩, ⟨2, 1, 2, 0, 0, -1, []⟩] := by kernel_rfl
theorem ex_b : Lx.lex clC ⟨#[97, 92, 123, 50]⟩ false false = .error (36, 1) := by kernel_rfl
theorem ex_c : Lx.lex clC ⟨#[91, 122, 45, 97, 93]⟩ false false = .error (34, 1) := by kernel_rfl
theorem ex_d : Lx.lex clC ⟨#[97, 92]⟩ false false = .error (31, 1) := by kernel_rfl
theorem ex_e : Lx.lex clC ⟨#[92, 123, 50, 92, 125]⟩ false false = .error (38, 0) := by kernel_rfl
theorem ToksAt.form2 {W : World} {base : Nat} {V : Value} {out : List Tok} (h : ToksAt W base V out) : ∃ A c, V = .slice A out.length c ∧ out.length ≤ c ∧ ∃ rv : Nat → Value, ∀ j t, out[j]? = some t → (∃ g, A = some ⟨g, 0, none⟩ ∧ ∀ i u, (tokV t (rv j))[i]? = some u → W.cell? ⟨g, j * 7 + i, none⟩ = some u) ∧ RanAt W base V (rv j) t.r := by
  obtain ⟨cs, rv, h1, h2, h3⟩ := h
  have hl := flat7_length cs out.length h1
  rcases h2.2 with ⟨rfl, h0⟩ | ⟨g, cap, cur, rfl, hb, hh, hc, hm, hs, ht⟩
  · refine ⟨none, 0, by rw [h0], by omega, rv, fun j t ht => ?_⟩
    have := (List.getElem?_eq_some_iff.1 ht).1
    omega
  · refine ⟨_, cap, rfl, hc, rv, fun j t hj => ⟨⟨g, rfl, fun i u hu => ?_⟩, (h3 j t hj).2.1⟩⟩
    have hjl := (List.getElem?_eq_some_iff.1 hj).1
    have hi : i < 7 := by have := (List.getElem?_eq_some_iff.1 hu).1; simpa [tokV] using this
    have h4 := flat7_at cs out.length h1 j hjl i hi
    rw [(h3 j t hj).1, hu, ← ht, List.getElem?_take] at h4
    split at h4
    · exact lk_cell hh (by simpa using h4)
    · cases h4
end Go.Proofs.YtamhkdlcoghdbaaDoor.PCls
/- The laws over the lexer: the examples. -/
namespace Go.Proofs.YtamhkdlcoghdbaaDoor.PCls
open Go.RowKit Go.Shelf Go.Proofs.YtamhkdlcoghdbaaDoorW.PrintWords Go.Proofs.YtamhkdlcoghdbaaDoorW.PrintLast Go.Proofs.YtamhkdlcoghdbaaDoorW.PrintMore
set_option linter.unusedVariables false
set_option linter.unusedSimpArgs false

set_option maxHeartbeats 4000000 in
set_option maxRecDepth 100000 in
theorem lexex_calls (w : World) (m : Int) (hm : w.cell? ⟨2, 0, none⟩ = some (.int .i64 m)) (h2 : 2 < w.heap.size) (hT : Lib.Utf8Tabs 0 1 w) :
  Calls Tryd.prog 16 #[] w fun e w' => e = .returned (.bool true) ∧ Below w.heap.size w w' := by
 have HL := Lib.hid (lex_calls w ⟨#[97, 42]⟩ false false m (by decide) hm h2 hT)
 rw [ex_a] at HL
 have HW := Lib.hid (fun (w1 : World) (hb : Below w.heap.size w w1) (s : ByteArray) (c p : Int) hs h => wrong_calls w1 s c p m hs ((hb.cell (p := ⟨2, 0, none⟩) h2).trans hm) (Nat.lt_of_lt_of_le h2 hb.size) (tabs_below hT hb) h)
 clear hm h2 hT
 go_enter Tryd.func16, Tryd.ntmps16
 go_wp2_with fail
 refine HL.out.mono ?_
 rintro e w1 ⟨hb, V, rfl, ht⟩
 have HB := Lib.hid hb
 obtain ⟨A, c, rfl, hc, rv, hf⟩ := ht.form2
 obtain ⟨⟨g, rfl, h0⟩, hr⟩ := hf 0 _ rfl
 obtain ⟨⟨g', e1, h1⟩, _⟩ := hf 1 _ rfl
 cases e1
 have a0 := h0 0 _ rfl
 have a6 := h0 6 _ rfl
 have b0 := h1 0 _ rfl
 have b1 := h1 1 _ rfl
 have b2 := h1 2 _ rfl
 have b5 := h1 5 _ rfl
 obtain ⟨r0, hr0⟩ : ∃ r, r = rv 0 := ⟨_, rfl⟩
 rw [← hr0] at a6 hr
 have hown := hr.1
 rcases hown.2 with ⟨_, hz⟩ | ⟨g2, cap, cur, e2, _, hh, hcc, _, hsz, htk⟩
 ·cases hz
 simp only [List.length_cons, List.length_nil] at e2 hcc hc
 subst e2
 have r1 : w1.cell? ⟨g2, 0, none⟩ = some (.int .i64 97) := lk_cell hh (by
  have h4 := congrArg (fun l : List Value => l[0]?) htk
  simp only [rowOf, List.getElem?_take] at h4
  simpa [enc2] using h4)
 clear h0 h1 hr hown hh htk hsz hf ht hb hr0
 simp only [Nat.zero_mul, Nat.one_mul, Nat.add_zero, Nat.zero_add, Nat.reduceAdd, List.length_cons, List.length_nil] at *
 go_wp2_with fail
 refine (HW.out w1 HB.out _ _ _ (by decide) ex_b).mono ?_
 rintro e w2 ⟨rfl, hb⟩
 have HB2 := Lib.hid (Below.up HB.out hb)
 clear hb
 go_wp2_with fail
 refine (HW.out w2 HB2.out _ _ _ (by decide) ex_c).mono ?_
 rintro e w3 ⟨rfl, hb⟩
 have HB3 := Lib.hid (Below.up HB2.out hb)
 clear hb
 go_wp2_with fail
 refine (HW.out w3 HB3.out _ _ _ (by decide) ex_d).mono ?_
 rintro e w4 ⟨rfl, hb⟩
 have HB4 := Lib.hid (Below.up HB3.out hb)
 clear hb
 go_wp2_with fail
 refine (HW.out w4 HB4.out _ _ _ (by decide) ex_e).mono ?_
 rintro e w5 ⟨rfl, hb⟩
 have HB5 := Lib.hid (Below.up HB4.out hb)
 clear hb
 go_wp2_with fail
 go_ret
 exact ⟨rfl, HB5.out⟩
end Go.Proofs.YtamhkdlcoghdbaaDoor.PCls
/- The lexer in plain Lean: its tokens stand one behind the other; its errors' codes and places. -/
namespace Go.Proofs.YtamhkdlcoghdbaaDoor.PCls
set_option linter.unusedVariables false
set_option linter.unusedSimpArgs false

def EOk (s : ByteArray) (e : Er) : Prop := 0 ≤ e.2 ∧ e.2 ≤ s.size ∧ (e.1 = 20 ∨ (30 ≤ e.1 ∧ e.1 ≤ 38))
theorem named_err {s : ByteArray} {chars : Bool} {x0 p : Nat} {sign : UInt8} {e : Er} (h : Lx.named clC s chars x0 p sign = .error e) (hx : x0 ≤ s.size) (hp : p + 2 ≤ s.size) : EOk s e := by
 by_cases h58 : sign = 58
 ·subst h58
  rw [named58_eq clC s chars x0 p hp] at h
  split at h
  ·cases h; exact ⟨by simp only; omega, by simp only; omega, .inr (by simp)⟩
  ·split at h
   ·cases h
   ·cases h; exact ⟨by simp only; omega, by simp only; omega, .inr (by simp)⟩
 ·rw [named_el_eq clC s chars x0 p sign h58] at h
  split at h
  ·cases h; exact ⟨by simp only; omega, by simp only; omega, .inr (by simp)⟩
  split at h
  ·cases h; exact ⟨by simp only; omega, by simp only; omega, .inr (by simp)⟩
  ·cases h
theorem named_sat {s : ByteArray} {chars : Bool} {x0 p : Nat} {sign : UInt8} {i : It} (h : Lx.named clC s chars x0 p sign = .ok i) (hp : p + 2 ≤ s.size) : 0 ≤ i.sat ∧ i.sat ≤ s.size := by
 by_cases h58 : sign = 58
 ·subst h58
  rw [named58_eq clC s chars x0 p hp] at h
  split at h
  ·cases h
  ·split at h
   ·cases h; simp
   ·cases h
 ·rw [named_el_eq clC s chars x0 p sign h58] at h
  split at h
  ·cases h
  split at h
  ·cases h
  ·cases h; simp only; omega
theorem item_err {s : ByteArray} {chars : Bool} {x0 p : Nat} {any : Bool} {e : Er} (h : Lx.item clC s chars x0 p any = .error e) (hx : x0 ≤ s.size) : EOk s e := by
 rw [item_eq] at h
 split at h
 ·rename_i h1; exact named_err h hx (here_le h1)
 split at h
 ·rename_i h1; exact named_err h hx (here_le h1)
 split at h
 ·rename_i h1; exact named_err h hx (here_le h1)
 unfold itemC at h
 split at h
 ·cases h; exact ⟨by simp only; omega, by simp only; omega, .inr (by simp)⟩
 rename_i hn
 have hp : p < s.size := by
  rcases Nat.lt_or_ge p s.size with h | h
  ·exact h
  ·exact absurd (by rw [unit_none s chars p (by omega)]) hn
 split at h
 ·cases h; exact ⟨by simp only; omega, by simp only; omega, .inl rfl⟩
 split at h
 ·split at h <;> cases h <;> exact ⟨by simp only; omega, by simp only; omega, .inr (by simp)⟩
 ·cases h
theorem item_sat {s : ByteArray} {chars : Bool} {x0 p : Nat} {any : Bool} {i : It} (h : Lx.item clC s chars x0 p any = .ok i) : 0 ≤ i.sat ∧ i.sat ≤ s.size := by
 rw [item_eq] at h
 split at h
 ·rename_i h1; exact named_sat h (here_le h1)
 split at h
 ·rename_i h1; exact named_sat h (here_le h1)
 split at h
 ·rename_i h1; exact named_sat h (here_le h1)
 unfold itemC at h
 split at h
 ·cases h
 rename_i hn
 have hp : p < s.size := by
  rcases Nat.lt_or_ge p s.size with h | h
  ·exact h
  ·exact absurd (by rw [unit_none s chars p (by omega)]) hn
 split at h
 ·cases h
 split at h
 ·split at h <;> cases h
 ·cases h; simp only; omega
theorem span_err {s : ByteArray} {chars : Bool} {x0 p : Nat} {a : It} {e : Er} (h : Lx.span clC s chars x0 a p = .error e) (hx : x0 ≤ s.size) (ha : 0 ≤ a.sat ∧ a.sat ≤ s.size) : EOk s e := by
 rw [span_eq] at h
 split at h
 ·cases h; exact ⟨ha.1, ha.2, .inr (by simp)⟩
 split at h
 ·cases h; exact ⟨ha.1, ha.2, .inr (by simp)⟩
 cases hr : Lx.item clC s chars x0 p true with
 | error y => rw [hr] at h; cases h; exact item_err hr hx
 | ok b =>
  rw [hr] at h
  simp only at h
  split at h
  ·cases h; exact ⟨ha.1, ha.2, .inr (by simp)⟩
  ·cases h
theorem part_err {s : ByteArray} {chars : Bool} {x0 p : Nat} {b : Bool} {e : Er} (h : Lx.part clC s chars x0 p b = .error e) (hx : x0 ≤ s.size) : EOk s e := by
 rw [part_eq] at h
 cases hr : Lx.item clC s chars x0 p b with
 | error y => rw [hr] at h; cases h; exact item_err hr hx
 | ok i =>
  rw [hr] at h
  simp only at h
  split at h
  ·exact span_err h hx (item_sat hr)
  ·cases h
theorem part_ok {s : ByteArray} {chars : Bool} {x0 p : Nat} {b : Bool} {i : It} (h : Lx.part clC s chars x0 p b = .ok i) : ∃ x : Nat, i.nx = x ∧ p < x ∧ x ≤ s.size + 2 := by
 rw [part_eq] at h
 cases hr : Lx.item clC s chars x0 p b with
 | error y => rw [hr] at h; cases h
 | ok j =>
  rw [hr] at h
  simp only at h
  obtain ⟨x, h1, h2, h3⟩ := (item_ok hr).n
  split at h
  ·obtain ⟨y, h4, h5, h6⟩ := (span_ok h).1.n
   rw [h1] at h5
   exact ⟨y, h4, by simp at h5; omega, h6⟩
  ·cases h; exact ⟨x, h1, h2, h3⟩
theorem parts_ok {s : ByteArray} {chars : Bool} {x0 : Nat} : ∀ (k p : Nat) (b : Bool) (l l' : List S64) (q : Nat), Lx.parts clC s chars x0 k p b l = .ok (l', q) → p ≤ q ∧ q + 1 ≤ s.size
 | 0, p, b, l, l', q, h => by cases h
 | k + 1, p, b, l, l', q, h => by
  rw [parts_eq] at h
  split at h
  ·rename_i h1
   cases h
   exact ⟨Nat.le_refl _, here_le h1.2⟩
  ·cases hr : Lx.part clC s chars x0 p b with
   | error y => rw [hr] at h; cases h
   | ok i =>
    rw [hr] at h
    obtain ⟨x, h1, h2, h3⟩ := part_ok hr
    have ih := parts_ok k _ _ _ _ _ h
    rw [h1] at ih
    simp at ih
    omega
theorem parts_err {s : ByteArray} {chars : Bool} {x0 : Nat} (hx : x0 ≤ s.size) : ∀ (k p : Nat) (b : Bool) (l : List S64) (e : Er), s.size + 3 ≤ p + k → p ≤ s.size + 2 → Lx.parts clC s chars x0 k p b l = .error e → EOk s e
 | 0, p, b, l, e, hk, hp, h => by omega
 | k + 1, p, b, l, e, hk, hp, h => by
  rw [parts_eq] at h
  split at h
  ·cases h
  ·cases hr : Lx.part clC s chars x0 p b with
   | error y => rw [hr] at h; cases h; exact part_err hr hx
   | ok i =>
    rw [hr] at h
    obtain ⟨x, h1, h2, h3⟩ := part_ok hr
    refine parts_err hx k _ _ _ _ ?_ ?_ h <;> rw [h1] <;> simp <;> omega
/-- a step: one token more -/
def Step1 (s : ByteArray) (x : Lx.St) (r : Except Er Lx.St) : Prop := match r with
 | .error e => EOk s e
 | .ok y => ∃ t e, y = Lx.put x t e ∧ x.sat < e ∧ e ≤ s.size ∧ 1 ≤ t.kind ∧ t.kind ≤ 8
theorem bracket_step {s : ByteArray} {chars fold : Bool} {x : Lx.St} (hx : x.sat < s.size) : Step1 s x (Lx.bracket clC s chars fold x) := by
 unfold Lx.bracket
 simp only
 cases hr : Lx.parts clC s chars x.sat (s.size + 2) (x.sat + 1 + if Lx.here s (x.sat + 1) [94] = true then 1 else 0) true [] with
 | error e => exact parts_err (by omega) _ _ _ _ _ (by omega) (by split <;> omega) hr
 | ok v =>
  obtain ⟨l, q⟩ := v
  have h := parts_ok _ _ _ _ _ _ hr
  exact ⟨_, _, rfl, by omega, h.2, by simp [Lx.tok], by simp [Lx.tok]⟩
theorem often_step {s : ByteArray} {x : Lx.St} {c e : Nat} (h1 : x.sat < e) (h2 : e ≤ s.size) : Step1 s x (Lx.often s x c e) := by
 unfold Lx.often
 split
 ·exact ⟨by simp only; omega, by simp only; omega, .inr (by simp)⟩
 split
 ·exact ⟨_, _, rfl, h1, h2, by simp [Lx.tok], by simp [Lx.tok]⟩
 split
 ·exact ⟨_, _, rfl, h1, h2, by simp [Lx.tok], by simp [Lx.tok]⟩
 cases hr : Lx.interval s x.sat e with
 | error y =>
  have hq : EOk s y := by
   obtain ⟨a1, ha⟩ : ∃ a1, a1 = Lx.number s (s.size + 1) e (-1) := ⟨_, rfl⟩
   obtain ⟨b1, hb⟩ : ∃ b1, b1 = (if 0 ≤ a1.1 ∧ Lx.here s a1.2 [44] = true then Lx.number s (s.size + 1) (a1.2 + 1) (-1) else (a1.1, a1.2)) := ⟨_, rfl⟩
   rw [interval_eq (q := x.sat) (a1 := a1.1) (a2 := a1.2) (b1 := b1.1) (b2 := b1.2) ha hb.symm] at hr
   split at hr
   ·cases hr; exact ⟨by simp only; omega, by simp only; omega, .inr (by simp)⟩
   split at hr
   ·cases hr; exact ⟨by simp only; omega, by simp only; omega, .inr (by simp)⟩
   ·cases hr
  exact hq
 | ok v =>
  obtain ⟨a, b, e2⟩ := v
  have h := interval_lim hr
  exact ⟨_, _, rfl, by omega, h.2, by simp [Lx.tok], by simp [Lx.tok]⟩
theorem escape_step {s : ByteArray} {fold : Bool} {x : Lx.St} (hx : x.sat < s.size) : Step1 s x (Lx.escape clC s fold x) := by
 unfold Lx.escape
 split
 ·exact ⟨by simp only; omega, by simp only; omega, .inr (by simp)⟩
 simp only
 split
 ·exact ⟨_, _, rfl, by omega, by omega, by simp [Lx.tok], by simp [Lx.tok]⟩
 split
 ·exact ⟨_, _, rfl, by omega, by omega, by simp [Lx.tok], by simp [Lx.tok]⟩
 split
 ·exact ⟨_, _, rfl, by omega, by omega, by simp [Lx.tok], by simp [Lx.tok]⟩
 split
 ·exact ⟨_, _, rfl, by omega, by omega, by simp [Lx.tok], by simp [Lx.tok]⟩
 split
 ·exact ⟨_, _, rfl, by omega, by omega, by simp [Lx.tok], by simp [Lx.tok]⟩
 split
 ·exact often_step (by omega) (by omega)
 ·exact ⟨by simp only; omega, by simp only; omega, .inr (by simp)⟩
theorem next_step {s : ByteArray} {chars fold : Bool} {x : Lx.St} (hx : x.sat < s.size) : Step1 s x (Lx.next clC s chars fold x) := by
 have hl := unit_lim s chars x.sat hx
 rw [next_eq]
 split
 ·exact ⟨by simp only; omega, by simp only; omega, .inl rfl⟩
 split
 ·exact escape_step hx
 split
 ·exact bracket_step hx
 split
 ·exact ⟨_, _, rfl, by omega, by omega, by simp [Lx.tok], by simp [Lx.tok]⟩
 split
 ·exact ⟨_, _, rfl, by omega, by omega, by simp [Lx.tok], by simp [Lx.tok]⟩
 split
 ·exact ⟨_, _, rfl, by omega, by omega, by simp [Lx.tok], by simp [Lx.tok]⟩
 split
 ·exact ⟨_, _, rfl, by omega, by omega, by simp [Lx.tok], by simp [Lx.tok]⟩
 ·exact ⟨_, _, rfl, by omega, by omega, by simp [Lx.tok], by simp [Lx.tok]⟩
/-- tokens that stand one behind the other, from p to q -/
def Stands : Nat → List Tok → Nat → Prop
 | p, [], q => p = q
 | p, t :: l, q => t.sat = (p : Int) ∧ ∃ e : Nat, t.fin = (e : Int) ∧ p < e ∧ 1 ≤ t.kind ∧ t.kind ≤ 8 ∧ Stands e l q
theorem Stands.snoc : ∀ {l : List Tok} {p q : Nat} {t : Tok} {e : Nat}, Stands p l q → q < e → 1 ≤ t.kind → t.kind ≤ 8 → Stands p (l ++ [{ t with sat := q, fin := e }]) e
 | [], p, q, t, e, h, h1, h2, h3 => by
  obtain rfl : p = q := h
  exact ⟨rfl, e, rfl, h1, h2, h3, rfl⟩
 | u :: l, p, q, t, e, h, h1, h2, h3 => by
  obtain ⟨a, f, b, c, d, g, hl⟩ := h
  exact ⟨a, f, b, c, d, g, hl.snoc h1 h2 h3⟩
theorem run_told {s : ByteArray} {chars fold : Bool} : ∀ (k : Nat) (x : Lx.St), s.size + 1 ≤ x.out.length + k → x.out.length ≤ x.sat → x.sat ≤ s.size → Stands 0 x.out x.sat → match Lx.run clC s chars fold k x with
  | .error e => EOk s e
  | .ok out => Stands 0 out s.size
 | 0, x, hk, h1, h2, h3 => by omega
 | k + 1, x, hk, h1, h2, h3 => by
  by_cases hx : x.sat < s.size
  ·rw [run_step hx]
   have hs := next_step (chars := chars) (fold := fold) hx
   cases hn : Lx.next clC s chars fold x with
   | error e => rw [hn] at hs; exact hs
   | ok y =>
    rw [hn] at hs
    obtain ⟨t, e, rfl, a, b, c, d⟩ := hs
    exact run_told k _ (by simp [Lx.put]; omega) (by simp [Lx.put]; omega) b (h3.snoc a c d)
  ·rw [run_stop hx]
   have : x.sat = s.size := by omega
   rw [this] at h3
   exact h3
theorem lex_told (s : ByteArray) (chars fold : Bool) : match Lx.lex clC s chars fold with
  | .error e => EOk s e
  | .ok out => Stands 0 out s.size := by
 by_cases h : 2000 < s.size
 ·rw [show Lx.lex clC s chars fold = .error (30, 0) by unfold Lx.lex; rw [if_pos h]]
  exact ⟨Int.le_refl _, Int.natCast_nonneg _, .inr (by simp)⟩
 ·rw [show Lx.lex clC s chars fold = Lx.run clC s chars fold (s.size + 1) ⟨0, []⟩ by unfold Lx.lex; rw [if_neg h]]
  exact run_told (s.size + 1) ⟨0, []⟩ (by simp) (by simp) (Nat.zero_le _) rfl
end Go.Proofs.YtamhkdlcoghdbaaDoor.PCls
/- The lexer in plain Lean: a text spelt out. -/
namespace Go.Proofs.YtamhkdlcoghdbaaDoor.PCls
set_option linter.unusedVariables false
set_option linter.unusedSimpArgs false

def spec (b : UInt8) : Bool := b == 92 || b == 91 || b == 46 || b == 42 || b == 94 || b == 36
def sp1 (b : UInt8) : List UInt8 := if b < 128 then (if spec b = true then [92, b] else [b]) else []
def spell (l : List UInt8) : List UInt8 := l.flatMap sp1
def shownB (l : List UInt8) : List UInt8 := l.filter (fun b => decide (b < 128))
theorem byt_drop {s : ByteArray} {p : Nat} {b : UInt8} {l : List UInt8} (h : s.data.toList.drop p = b :: l) : p < s.size ∧ Lx.byt s p = b.toNat ∧ s.data.toList.drop (p + 1) = l := by
 have h0 : s.data.toList.length = s.size := by simp
 have hp : p < s.data.toList.length := by
  rcases Nat.lt_or_ge p s.data.toList.length with h1 | h1
  ·exact h1
  ·rw [List.drop_eq_nil_of_le h1] at h; cases h
 rw [List.drop_eq_getElem_cons hp] at h
 obtain ⟨h1, h2⟩ := List.cons.inj h
 refine ⟨by omega, ?_, h2⟩
 unfold Lx.byt
 rw [List.getD_eq_getElem?_getD, List.getElem?_eq_getElem hp, Option.getD_some, h1]
theorem unit_ascii (s : ByteArray) (chars : Bool) (p : Nat) (h : p < s.size) (hb : Lx.byt s p < 128) : Lx.unit s chars p = ((Lx.byt s p : Int), 1) := by
 have h4 := byt_at s p h
 have hd : Utf8.decode s p = (Lx.byt s p, 1) := by
  rw [Lib.decode_at]
  have hg : (s.get! p).toNat = Lx.byt s p := by rw [h4]; simp [ByteArray.get!, h]; rfl
  unfold Lib.decodeN
  rw [hg, if_pos hb]
 unfold Lx.unit
 rw [if_pos h]
 cases chars with
 | false => rfl
 | true =>
  have hok : okAt s p = true := by
   unfold okAt
   rw [hd]
   simp
   omega
  rw [if_pos rfl, if_pos hok, hd]
theorem next_plain {s : ByteArray} {chars fold : Bool} {x : Lx.St} {b : UInt8} {l : List UInt8} (h : s.data.toList.drop x.sat = sp1 b ++ l) (hb : b < 128) :
  Lx.next clC s chars fold x = .ok (Lx.char clC fold x b.toNat (x.sat + (sp1 b).length)) ∧ s.data.toList.drop (x.sat + (sp1 b).length) = l ∧ x.sat < s.size := by
 have hbn : b.toNat < 128 := by simpa [UInt8.lt_iff_toNat_lt] using hb
 by_cases hs : spec b = true
 ·rw [show sp1 b = [92, b] by unfold sp1; rw [if_pos hb, if_pos hs]] at h ⊢
  obtain ⟨h1, h2, h3⟩ := byt_drop h
  obtain ⟨h4, h5, h6⟩ := byt_drop h3
  refine ⟨?_, h6, h1⟩
  have hu := unit_ascii s chars x.sat h1 (by rw [h2]; decide)
  rw [h2] at hu
  rw [next_eq, hu]
  rw [if_neg (by decide), if_pos (by decide)]
  unfold Lx.escape
  rw [if_neg (by omega)]
  simp only [h5]
  have hc : b.toNat = 92 ∨ b.toNat = 91 ∨ b.toNat = 46 ∨ b.toNat = 42 ∨ b.toNat = 94 ∨ b.toNat = 36 := by
   simp only [spec, Bool.or_eq_true, beq_iff_eq] at hs
   rcases hs with ((((rfl | rfl) | rfl) | rfl) | rfl) | rfl <;> decide
  rw [if_neg (by omega), if_neg (by omega), if_neg (by omega), if_neg (by omega), if_pos (by omega)]
  rfl
 ·rw [show sp1 b = [b] by unfold sp1; rw [if_pos hb, if_neg hs]] at h ⊢
  obtain ⟨h1, h2, h3⟩ := byt_drop h
  refine ⟨?_, h3, h1⟩
  have hu := unit_ascii s chars x.sat h1 (by rw [h2]; exact hbn)
  rw [h2] at hu
  rw [next_eq, hu]
  have hc : b.toNat ≠ 92 ∧ b.toNat ≠ 91 ∧ b.toNat ≠ 46 ∧ b.toNat ≠ 42 ∧ b.toNat ≠ 94 ∧ b.toNat ≠ 36 := by
   refine ⟨?_, ?_, ?_, ?_, ?_, ?_⟩ <;> intro e <;> apply hs <;> rw [show b = UInt8.ofNat b.toNat by simp, e] <;> decide
  rw [if_neg (by simp only; omega), if_neg (by simp only; omega), if_neg (by simp only; omega), if_neg (by simp only; omega), if_neg (by simp only; omega), if_neg (by simp only; omega), if_neg (by simp only; omega)]
  rfl
/-- the tokens of a text -/
def TokOf (fold : Bool) (b : UInt8) (t : Tok) : Prop := t.kind = 1 ∧ t.r = Lx.oneR clC fold b.toNat
def ToksOf (fold : Bool) : List UInt8 → List Tok → Prop
 | [], [] => True
 | b :: l, t :: ts => TokOf fold b t ∧ ToksOf fold l ts
 | _, _ => False
theorem run_plain {s : ByteArray} {chars fold : Bool} : ∀ (l : List UInt8) (k : Nat) (x : Lx.St), (∀ b ∈ l, b < 128) → s.data.toList.drop x.sat = spell l → l.length < k → x.sat ≤ s.size → ∃ ts, Lx.run clC s chars fold k x = .ok (x.out ++ ts) ∧ ToksOf fold l ts
 | [], k, x, hb, h, hk, hx => by
  have hl := congrArg List.length h
  have h0 : s.data.toList.length = s.size := by simp
  rw [List.length_drop, h0] at hl
  have hl' : s.size - x.sat = 0 := hl
  exact ⟨[], by rw [run_stop (by omega), List.append_nil], trivial⟩
 | b :: l, k, x, hb, h, hk, hx => by
  obtain ⟨k, rfl⟩ : ∃ j, k = j + 1 := ⟨k - 1, by omega⟩
  obtain ⟨h1, h2, h3⟩ := next_plain (chars := chars) (fold := fold) (l := spell l) h (hb b (by simp))
  have hle : x.sat + (sp1 b).length ≤ s.size := by
   have hl := congrArg List.length h
   have h0 : s.data.toList.length = s.size := by simp
   rw [List.length_drop, h0] at hl
   have h9 : (spell (b :: l)).length = (sp1 b).length + (spell l).length := by simp [spell]
   omega
  obtain ⟨ts, h4, h5⟩ := run_plain l k (Lx.char clC fold x b.toNat (x.sat + (sp1 b).length)) (fun c hc => hb c (by simp [hc])) h2 (by simp at hk; omega) hle
  refine ⟨(⟨1, x.sat, ((x.sat + (sp1 b).length : Nat) : Int), 0, 0, 0, Lx.oneR clC fold b.toNat⟩ : Tok) :: ts, ?_, ⟨rfl, rfl⟩, h5⟩
  rw [run_step h3, h1]
  simp only
  rw [h4]
  simp [Lx.char, Lx.put, Lx.tok]
theorem sp1_length (b : UInt8) : (sp1 b).length ≤ 2 := by unfold sp1; split <;> (try split) <;> simp
theorem spell_length (l : List UInt8) : (spell l).length ≤ 2 * l.length := by
 induction l with
 | nil => simp [spell]
 | cons b l ih => simp only [spell, List.flatMap_cons, List.length_append, List.length_cons] at ih ⊢; have := sp1_length b; omega
theorem lex_plain (s : ByteArray) (chars fold : Bool) (l : List UInt8) (hb : ∀ b ∈ l, b < 128) (h : s.data.toList = spell l) (hl : l.length ≤ 900) : ∃ ts, Lx.lex clC s chars fold = .ok ts ∧ ToksOf fold l ts := by
 have h0 : s.data.toList.length = s.size := by simp
 have h1 := spell_length l
 rw [h, ] at h0
 have hle : l.length ≤ (spell l).length := by
  clear h h0 h1 hl
  induction l with
  | nil => simp
  | cons b l ih =>
   have h2 := ih (fun c hc => hb c (by simp [hc]))
   have h3 : 1 ≤ (sp1 b).length := by unfold sp1; rw [if_pos (hb b (by simp))]; split <;> simp
   simp only [spell, List.flatMap_cons, List.length_append, List.length_cons] at h2 ⊢
   omega
 unfold Lx.lex
 rw [if_neg (by omega)]
 obtain ⟨ts, h2, h3⟩ := run_plain (s := s) (chars := chars) (fold := fold) l (s.size + 1) ⟨0, []⟩ hb (by simpa using h) (by omega) (Nat.zero_le _)
 exact ⟨ts, by simpa using h2, h3⟩
theorem spell_shown (l : List UInt8) : spell l = spell (shownB l) := by
 induction l with
 | nil => rfl
 | cons b l ih =>
  by_cases hb : b < 128
  ·simp only [shownB, List.filter_cons, hb, decide_true, if_true]
   simp only [spell, List.flatMap_cons] at ih ⊢
   rw [ih]; rfl
  ·simp only [shownB, List.filter_cons, hb, decide_false]
   simp only [spell, List.flatMap_cons] at ih ⊢
   rw [ih, show sp1 b = [] by unfold sp1; rw [if_neg hb]]; rfl
theorem shown_lt (l : List UInt8) : ∀ b ∈ shownB l, b < 128 := by intro b hb; simpa [shownB] using (List.mem_filter.1 hb).2
end Go.Proofs.YtamhkdlcoghdbaaDoor.PCls
