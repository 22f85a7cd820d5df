/- Put together (wip/tools/pack.py): QLw, QLz. -/
import Derived.Test.YtamhkdlcoghdbaaGreatDoorKMQLe
/- Out of Lw (wip/tools/prune2.py): the declarations alone that the texts of the trees name. -/
namespace Go.Proofs.YtamhkdlcoghdbaaGreatDoor.PCls
open Go.RowKit Go.Shelf Go.Proofs.YtamhkdlcoghdbaaGreatDoorW.PrintWords Go.Proofs.YtamhkdlcoghdbaaGreatDoorW.PrintLast Go.Proofs.YtamhkdlcoghdbaaGreatDoorW.PrintMore
set_option linter.unusedVariables false
set_option linter.unusedSimpArgs false
/-- what Lex hands back -/
def LexAt (W w' : World) (e : Ending) (r : Except Er (List Tok)) : Prop := Below W.heap.size W w' ∧ match r with
 | .error x => ∃ g, e = .returned (.tuple #[.slice none 0 0, .iface 71 (.pointer (some ⟨g, 0, none⟩))]) ∧ W.heap.size ≤ g ∧ w'.heap[g]? = some (.cells #[.int .i64 x.1, .int .i64 x.2] 78 (0, 0))
 | .ok out => ∃ V', e = .returned (.tuple #[V', .nilIface]) ∧ ToksAt w' W.heap.size V' out
theorem alloc_at {w : World} {o : Obj} {n : Nat} (h : n = w.heap.size) : (w.alloc o).heap[n]? = some o := by subst h; exact heap_alloc_new w o
theorem ToksAt.lower {W : World} {base b : Nat} {V : Value} {out : List Tok} (h : ToksAt W base V out) (hb : b ≤ base) : ToksAt W b V out := by
 obtain ⟨cs, rv, h1, h2, h3⟩ := h
 refine ⟨cs, rv, h1, own_weaken h2 hb, fun j t ht => ?_⟩
 obtain ⟨e, ⟨o1, o2⟩, hd⟩ := h3 j t ht
 exact ⟨e, ⟨own_weaken o1 hb, o2⟩, hd⟩
theorem often_put {s : ByteArray} {x y : Lx.St} {c e : Nat} (h : Lx.often s x c e = .ok y) : ∃ t n, y = Lx.put x t n := by
 unfold Lx.often at h
 split at h
 ·cases h
 split at h
 ·cases h; exact ⟨_, _, rfl⟩
 split at h
 ·cases h; exact ⟨_, _, rfl⟩
 split at h
 ·cases h
 ·cases h; exact ⟨_, _, rfl⟩
theorem escape_put {C : CL} {s : ByteArray} {fold : Bool} {x y : Lx.St} (h : Lx.escape C s fold x = .ok y) : ∃ t n, y = Lx.put x t n := by
 unfold Lx.escape at h
 split at h
 ·cases h
 simp only at h
 repeat first
  | (split at h; · (cases h; exact ⟨_, _, rfl⟩))
  | (split at h; · exact often_put h)
 cases h
theorem bracket_put {C : CL} {s : ByteArray} {chars fold : Bool} {x y : Lx.St} (h : Lx.bracket C s chars fold x = .ok y) : ∃ t n, y = Lx.put x t n := by
 unfold Lx.bracket at h
 simp only at h
 split at h
 ·cases h
 ·cases h; exact ⟨_, _, rfl⟩
theorem next_put {s : ByteArray} {chars fold : Bool} {x y : Lx.St} (h : Lx.next clC s chars fold x = .ok y) : ∃ t n, y = Lx.put x t n := by
 rw [next_eq] at h
 split at h
 ·cases h
 split at h
 ·exact escape_put h
 split at h
 ·exact bracket_put h
 repeat (split at h; · (cases h; exact ⟨_, _, rfl⟩))
 cases h; exact ⟨_, _, rfl⟩
theorem next_length {s : ByteArray} {chars fold : Bool} {x y : Lx.St} (h : Lx.next clC s chars fold x = .ok y) : y.out.length = x.out.length + 1 := by
 obtain ⟨t, n, rfl⟩ := next_put h
 simp [Lx.put]
theorem lrun_stop {s : ByteArray} {chars fold : Bool} {k : Nat} {x : Lx.St} (h : ¬ x.sat < s.size) : Lx.run clC s chars fold k x = .ok x.out := by
 cases k with
 | zero => rfl
 | succ k => unfold Lx.run; rw [if_neg h]
theorem run_step {s : ByteArray} {chars fold : Bool} {k : Nat} {x : Lx.St} (h : x.sat < s.size) : Lx.run clC s chars fold (k + 1) x = match Lx.next clC s chars fold x with
  | .error e => .error e
  | .ok y => Lx.run clC s chars fold k y := by
 conv => lhs; unfold Lx.run
 rw [if_pos h]
 rfl
theorem lex_results (tmps : Array Value) (w : World) (a b : Nat) (va vb : Value) (h4 : tmps.getD 4 undef = .pointer (some ⟨a, 0, none⟩)) (h5 : tmps.getD 5 undef = .pointer (some ⟨b, 0, none⟩)) (ho : w.heap[a]? = some (.cells #[va] 25 (0, 0))) (he : w.heap[b]? = some (.cells #[vb] 29 (0, 0))) :
  (results Tryz.f14 tmps).run Tryz.prog w = .ok (.tuple #[va, vb]) w := by
 have h4' : tmps[4]?.getD undef = .pointer (some ⟨a, 0, none⟩) := by simpa using h4
 have h5' : tmps[5]?.getD undef = .pointer (some ⟨b, 0, none⟩) := by simpa using h5
 have c1 := lk_cell (i := 0) ho rfl
 have c2 := lk_cell (i := 0) he rfl
 simp only [results, show Tryz.f14.results = #[.cell 4 25, .cell 5 29] from rfl]
 simp [Sem.run_bind, Result.andThen, h4', h5', go_sem, c1, c2]
theorem lex_panic (W w : World) (s : ByteArray) (chars fold : Bool) (tmps : Array Value) (g : Nat) (c p : Int) (h4 : tmps.getD 4 undef = .pointer (some ⟨W.heap.size + 1, 0, none⟩)) (h5 : tmps.getD 5 undef = .pointer (some ⟨W.heap.size + 1 + 1, 0, none⟩))
  (ho : w.heap[W.heap.size + 1]? = some (.cells #[.slice none 0 0] 25 (0, 0))) (he : w.heap[W.heap.size + 1 + 1]? = some (.cells #[.nilIface] 29 (0, 0))) (hb : Below W.heap.size W w) (hg : W.heap.size + 3 ≤ g) (hgc : w.heap[g]? = some (.cells #[.int .i64 c, .int .i64 p] 78 (0, 0)))
  (HX : Lx.lex clC s chars fold = .error (c, p)) :
  Leaves Tryz.prog Tryz.f14 tmps (fun e w' => LexAt W w' e (Lx.lex clC s chars fold)) [{ target := Target.fn (Fn.func 40) #[.pointer (some ⟨W.heap.size + 1, 0, none⟩), .pointer (some ⟨W.heap.size + 1 + 1, 0, none⟩)], args := #[] }] (.panicking [⟨.iface 71 (.pointer (some ⟨g, 0, none⟩)), false, false⟩]) w := by
 refine leaves_cons (f := 40) (args := #[.pointer (some ⟨W.heap.size + 1, 0, none⟩), .pointer (some ⟨W.heap.size + 1 + 1, 0, none⟩)]) (by simp) (by simp [go_sem]) ?_
 refine (catch_panicking (W.heap.size + 1) (W.heap.size + 1 + 1) g _ w [] ho he (by omega)).mono ?_
 rintro e u' w'' ⟨rfl, rfl, rfl⟩
 have ho1 := set_blk (W := w.drew) ho 0 (.slice none 0 0)
 have he1 := (Below.heap_setCell w.drew ⟨W.heap.size + 1, 0, none⟩ (.slice none 0 0) (W.heap.size + 1 + 1) (by simp)).trans he
 have ho2 := (Below.heap_setCell (w.drew.setCell ⟨W.heap.size + 1, 0, none⟩ (.slice none 0 0)) ⟨W.heap.size + 1 + 1, 0, none⟩ (.iface 71 (.pointer (some ⟨g, 0, none⟩))) (W.heap.size + 1) (by simp)).trans ho1
 have he2 := set_blk he1 0 (.iface 71 (.pointer (some ⟨g, 0, none⟩)))
 have hg2 := (Below.heap_setCell (w.drew.setCell ⟨W.heap.size + 1, 0, none⟩ (.slice none 0 0)) ⟨W.heap.size + 1 + 1, 0, none⟩ (.iface 71 (.pointer (some ⟨g, 0, none⟩))) g (by simp only; omega)).trans ((Below.heap_setCell w.drew ⟨W.heap.size + 1, 0, none⟩ (.slice none 0 0) g (by simp only; omega)).trans hgc)
 have hb2 := ((hb.drew).setCell (p := ⟨W.heap.size + 1, 0, none⟩) (Nat.le_succ _) (.slice none 0 0)).setCell (p := ⟨W.heap.size + 1 + 1, 0, none⟩) (by simp only; omega) (.iface 71 (.pointer (some ⟨g, 0, none⟩)))
 exact ⟨_, lex_results tmps _ _ _ _ _ h4 h5 ho2 he2, hb2, by rw [HX]; exact ⟨g, rfl, by omega, hg2⟩⟩
theorem lex_return (W w : World) (s : ByteArray) (chars fold : Bool) (tmps : Array Value) (V : Value) (out : List Tok) (h4 : tmps.getD 4 undef = .pointer (some ⟨W.heap.size + 1, 0, none⟩)) (h5 : tmps.getD 5 undef = .pointer (some ⟨W.heap.size + 1 + 1, 0, none⟩))
  (ho : w.heap[W.heap.size + 1]? = some (.cells #[V] 25 (0, 0))) (he : w.heap[W.heap.size + 1 + 1]? = some (.cells #[.nilIface] 29 (0, 0))) (hb : Below W.heap.size W w) (ht : ToksAt w W.heap.size V out)
  (HX : Lx.lex clC s chars fold = .ok out) :
  Leaves Tryz.prog Tryz.f14 tmps (fun e w' => LexAt W w' e (Lx.lex clC s chars fold)) [{ target := Target.fn (Fn.func 40) #[.pointer (some ⟨W.heap.size + 1, 0, none⟩), .pointer (some ⟨W.heap.size + 1 + 1, 0, none⟩)], args := #[] }] .returning w := by
 refine leaves_cons (f := 40) (args := #[.pointer (some ⟨W.heap.size + 1, 0, none⟩), .pointer (some ⟨W.heap.size + 1 + 1, 0, none⟩)]) (by simp) (by simp [go_sem]) ?_
 refine (catch_idle ⟨W.heap.size + 1, 0, none⟩ ⟨W.heap.size + 1 + 1, 0, none⟩ w).mono ?_
 rintro e u' w'' ⟨rfl, rfl, rfl⟩
 exact ⟨_, lex_results tmps _ _ _ _ _ h4 h5 ho he, hb, by rw [HX]; exact ⟨V, rfl, ht⟩⟩
set_option maxHeartbeats 4000000 in
set_option maxRecDepth 100000 in
theorem lex_calls (W : World) (s : ByteArray) (chars fold : Bool) (m : Int) (hs : s.size ≤ 140737488351232) (hm : W.cell? ⟨2, 0, none⟩ = some (.int .i64 m)) (h2 : 2 < W.heap.size) (hT : Lib.Utf8Tabs 0 1 W) :
  Calls Tryz.prog 14 #[.string s, .agg #[.bool chars, .bool fold]] W fun e w' => LexAt W w' e (Lx.lex clC s chars fold) := by
 have hmf : ∀ (fn : Fn) (first cap : Array Value) (w : World), (Instr.makeFunc fn first cap).run Tryz.prog w = .ok (.func fn first cap) w := fun _ _ _ _ => rfl
 have hb1 := (Below.refl W.heap.size W).alloc (Nat.le_refl _) (.cells #[.bool chars, .bool fold] 23)
 have hb2 := hb1.alloc hb1.size (.cells #[.slice none 0 0] 25)
 have hb3 := hb2.alloc hb2.size (.cells #[.nilIface] 29)
 by_cases hbig : 2000 < s.size
 ·have HX := Lib.hid (show Lx.lex clC s chars fold = .error (30, 0) by unfold Lx.lex; rw [if_pos hbig])
  have hbi : (2000 : Int) < (s.size : Int) := by omega
  clear hm h2 hT
  go_enter_defers Tryz.func14, Tryz.ntmps14
  go_wp2_with fail
  generalize hW3 : ((W.alloc (.cells #[.bool chars, .bool fold] 23)).alloc (.cells #[.slice none 0 0] 25)).alloc (.cells #[.nilIface] 29) = W3
  have hz3 : W3.heap.size = W.heap.size + 1 + 1 + 1 := by rw [← hW3]; simp
  have ho : W3.heap[W.heap.size + 1]? = some (.cells #[.slice none 0 0] 25 (0, 0)) := by rw [← hW3]; exact (heap_alloc_old _ _ (by simp)).trans (heap_alloc2_new W _ _)
  have he : W3.heap[W.heap.size + 1 + 1]? = some (.cells #[.nilIface] 29 (0, 0)) := by rw [← hW3]; exact alloc_at (by simp)
  rw [hW3] at hb3
  refine (fail_calls _ _ _).mono ?_
  rintro e w2 ⟨⟨g, rfl, hg, hgc⟩, hb⟩
  exact lex_panic W w2 s chars fold _ g 30 0 rfl rfl ((hb.block _ (by omega)).trans ho) ((hb.block _ (by omega)).trans he) (Below.up hb3 hb) (by omega) hgc HX.out
 ·have HX := Lib.hid (show Lx.lex clC s chars fold = Lx.run clC s chars fold (s.size + 1) ⟨0, []⟩ by unfold Lx.lex; rw [if_neg hbig])
  have hbi : ¬ (2000 : Int) < (s.size : Int) := by omega
  go_enter_defers Tryz.func14, Tryz.ntmps14
  go_wp2_with fail
  generalize hW3 : ((W.alloc (.cells #[.bool chars, .bool fold] 23)).alloc (.cells #[.slice none 0 0] 25)).alloc (.cells #[.nilIface] 29) = W3
  have hz3 : W3.heap.size = W.heap.size + 1 + 1 + 1 := by rw [← hW3]; simp
  have ho3 : W3.heap[W.heap.size + 1]? = some (.cells #[.slice none 0 0] 25 (0, 0)) := by rw [← hW3]; exact (heap_alloc_old _ _ (by simp)).trans (heap_alloc2_new W _ _)
  have he3 : W3.heap[W.heap.size + 1 + 1]? = some (.cells #[.nilIface] 29 (0, 0)) := by rw [← hW3]; exact alloc_at (by simp)
  rw [hW3] at hb3
  have hb4 := hb3.alloc hb3.size (.cells #[.string s, .bool chars, .bool fold, .int .i64 0, .slice none 0 0] 75)
  generalize hW4 : W3.alloc (.cells #[.string s, .bool chars, .bool fold, .int .i64 0, .slice none 0 0] 75) = W4
  rw [hW4] at hb4
  have hz4 : W4.heap.size = W.heap.size + 1 + 1 + 1 + 1 := by rw [← hW4]; simp [hz3]
  have ho : W4.heap[W.heap.size + 1]? = some (.cells #[.slice none 0 0] 25 (0, 0)) := by rw [← hW4]; exact (heap_alloc_old _ _ (by omega)).trans ho3
  have he : W4.heap[W.heap.size + 1 + 1]? = some (.cells #[.nilIface] 29 (0, 0)) := by rw [← hW4]; exact (heap_alloc_old _ _ (by omega)).trans he3
  obtain ⟨B, hB⟩ : ∃ B, B = W.heap.size + 1 + 1 + 1 := ⟨_, rfl⟩
  have hst : ScSt W4 B (B + 1) s chars fold ⟨0, []⟩ (.slice none 0 0) := ⟨by rw [← hW4]; exact alloc_at (by omega), ToksAt.nil _ _, Nat.lt_succ_self _, by omega, Nat.le_refl _, Nat.zero_le _, by show s.size ≤ 2000; omega⟩
  rw [← hB]
  have HOE := Lib.hid (And.intro ho (And.intro he (And.intro hb4 (And.intro hB hz4))))
  have HM := Lib.hid (fun (w : World) (hb : Below W.heap.size W w) => (hb.cell (p := ⟨2, 0, none⟩) h2).trans hm)
  have HM2 := Lib.hid (fun (w : World) (hb : Below W.heap.size W w) => Nat.lt_of_lt_of_le h2 hb.size)
  have HT := Lib.hid hT
  have HST := Lib.hid hst
  clear hst hB ho he hb4 hW4 hz4 hW3 hz3 ho3 he3 hb3 hb2 hb1 hm h2 hT
  go_loopg [24] (s.size + 1) (fun gg _ wr => ∃ (x : Lx.St) (V : Value) (k : Nat), Aside0 (ScSt wr B (B + 1) s chars fold x V) ∧ Aside0 (Stp W4 wr B (B + 1)) ∧ s.size + 1 ≤ x.out.length + k ∧ s.size + 1 - x.out.length ≤ gg ∧ Hid (Lx.lex clC s chars fold = Lx.run clC s chars fold k x))
  case atStart => exact ⟨⟨0, []⟩, .slice none 0 0, s.size + 1, ⟨HST.out⟩, ⟨⟨rfl, rfl, rfl, Nat.le_refl _, fun _ _ _ => rfl⟩⟩, by simp, by simp, HX⟩
  case round =>
   obtain ⟨x, V, k, HS, HP, hk, hgg, HR⟩ := hrel
   have c0 := HS.out.sc.c0
   have c3 := HS.out.sc.c3
   have hlen := HS.out.len
   have hbw : Below W.heap.size W wr := Below.trans HOE.out.2.2.1 (HP.out.below (by have := HOE.out.2.2.2.1; omega) (by have := HOE.out.2.2.2.1; omega))
   by_cases hx : x.sat < s.size
   ·obtain ⟨k, rfl⟩ : ∃ j, k = j + 1 := ⟨k - 1, by omega⟩
    have HN := Lib.hid (next_calls wr B (B + 1) s chars fold x V m HS.out hx (HM.out wr hbw) (HM2.out wr hbw) (tabs_below HT.out hbw))
    have hlt : (x.sat : Int) < (s.size : Int) := by omega
    have HR2 := Lib.hid (HR.out.trans (run_step hx))
    have HBW := Lib.hid hbw
    clear HR hbw HX
    go_wp2_with fail
    refine HN.out.mono ?_
    intro e w2 hst
    clear HN
    cases hn : Lx.next clC s chars fold x with
    | error y =>
     rw [hn] at hst
     obtain ⟨⟨g, rfl, hg, hgc⟩, hb⟩ := hst
     have hXX := HR2.out.trans (by rw [hn])
     have hoo := HOE.out
     have hzz := HP.out.size
     exact lex_panic W w2 s chars fold _ g y.1 y.2 rfl rfl ((hb.block _ (by omega)).trans ((HP.out.block _ (by omega) (by omega)).trans hoo.1)) ((hb.block _ (by omega)).trans ((HP.out.block _ (by omega) (by omega)).trans hoo.2.1)) (Below.up HBW.out hb) (by omega) hgc hXX
    | ok y =>
     rw [hn] at hst
     obtain ⟨rfl, ⟨V', hs'⟩, hp'⟩ := hst
     have HR3 := Lib.hid (HR2.out.trans (by rw [hn]))
     have hyl := next_length hn
     have HS2 := Lib.hid hs'
     have HP2 := Lib.hid (HP.out.trans hp')
     clear hs' hp' hn HR2 HP HS HBW hlt c0 c3
     go_wp2_with fail
     go_roundg (s.size + 1 - y.out.length)
     case measure => omega
     case rel => exact ⟨y, V', k, ⟨HS2.out⟩, ⟨HP2.out⟩, by omega, Nat.le_refl _, HR3⟩
   ·obtain ⟨AV, cV, rfl, _⟩ := HS.out.toks.form
    have hlt : ¬ (x.sat : Int) < (s.size : Int) := by omega
    have HR2 := Lib.hid (HR.out.trans (lrun_stop hx))
    have hoo := HOE.out
    have ho2 := (HP.out.block _ (by omega) (by omega)).trans hoo.1
    have he2 := (HP.out.block _ (by omega) (by omega)).trans hoo.2.1
    have hfo : ∀ o, wr.frozen? ⟨W.heap.size + 1, o, none⟩ = false := fun o => by simp only [World.frozen?, ho2]; simp
    have hfe : ∀ o, wr.frozen? ⟨W.heap.size + 1 + 1, o, none⟩ = false := fun o => by simp only [World.frozen?, he2]; simp
    have co := lk_cell (i := 0) ho2 rfl
    have ce := lk_cell (i := 0) he2 rfl
    have c4 := HS.out.sc.c4
    have HZ := Lib.hid (And.intro ho2 (And.intro he2 hbw))
    clear hoo ho2 he2 hbw HR HX
    go_wp2_with fail
    have hoo := HOE.out
    have ho1 := set_blk HZ.out.1 0 (.slice AV x.out.length cV)
    have he1 := (Below.heap_setCell wr ⟨W.heap.size + 1, 0, none⟩ (.slice AV x.out.length cV) (W.heap.size + 1 + 1) (by simp)).trans HZ.out.2.1
    have ho2 := (Below.heap_setCell (wr.setCell ⟨W.heap.size + 1, 0, none⟩ (.slice AV x.out.length cV)) ⟨W.heap.size + 1 + 1, 0, none⟩ .nilIface (W.heap.size + 1) (by simp)).trans ho1
    have he2 := set_blk he1 0 .nilIface
    have hb2 := (HZ.out.2.2.setCell (p := ⟨W.heap.size + 1, 0, none⟩) (Nat.le_succ _) (.slice AV x.out.length cV)).setCell (p := ⟨W.heap.size + 1 + 1, 0, none⟩) (by simp only; omega) .nilIface
    have ht : ToksAt ((wr.setCell ⟨W.heap.size + 1, 0, none⟩ (.slice AV x.out.length cV)).setCell ⟨W.heap.size + 1 + 1, 0, none⟩ .nilIface) (B + 1) (.slice AV x.out.length cV) x.out := HS.out.toks.move (fun k hk _ => (Below.heap_setCell _ ⟨W.heap.size + 1 + 1, 0, none⟩ .nilIface k (by simp only; omega)).trans (Below.heap_setCell wr ⟨W.heap.size + 1, 0, none⟩ (.slice AV x.out.length cV) k (by simp only; omega)))
    exact lex_return W _ s chars fold _ _ x.out rfl rfl ho2 he2 hb2 (ht.lower (by omega)) HR2.out
end Go.Proofs.YtamhkdlcoghdbaaGreatDoor.PCls
/- Out of Lz (wip/tools/prune2.py): the declarations alone that the texts of the trees name. -/
namespace Go.Proofs.YtamhkdlcoghdbaaGreatDoor.PCls
open Go.RowKit Go.Shelf Go.Proofs.YtamhkdlcoghdbaaGreatDoorW.PrintWords Go.Proofs.YtamhkdlcoghdbaaGreatDoorW.PrintLast Go.Proofs.YtamhkdlcoghdbaaGreatDoorW.PrintMore
set_option linter.unusedVariables false
set_option linter.unusedSimpArgs false
theorem run_asserted2 (t xT e : TypeId) (v : Value) (w : World) (h : Tryz.prog.underlying t = some (.pointer e)) : (Instr.typeAssert (.iface t v) xT t true).run Tryz.prog w = .ok (.tuple #[v, .bool true]) w := by
  simp [Instr.typeAssert, run_underlying h, go_sem, Result.andThen]
set_option maxHeartbeats 4000000 in
theorem told_nil (w : World) : Calls Tryz.prog 15 #[.nilIface] w fun e w' => e = .returned (.tuple #[.int .i64 0, .int .i64 0, .bool true]) ∧ w' = w := by
  go_enter Tryz.func15, Tryz.ntmps15
  go_wp2_with fail
  go_ret3
  exact ⟨rfl, rfl⟩
set_option maxHeartbeats 4000000 in
set_option maxRecDepth 100000 in
theorem told_some (w : World) (g : Nat) (c p : Int) (hg : w.heap[g]? = some (.cells #[.int .i64 c, .int .i64 p] 78 (0, 0))) :
    Calls Tryz.prog 15 #[.iface 71 (.pointer (some ⟨g, 0, none⟩))] w fun e w' => e = .returned (.tuple #[.int .i64 c, .int .i64 p, .bool true]) ∧ Below w.heap.size w w' := by
  have hta : ∀ w', (Instr.typeAssert (.iface 71 (.pointer (some ⟨g, 0, none⟩))) 29 71 true).run Tryz.prog w' = .ok (.tuple #[.pointer (some ⟨g, 0, none⟩), .bool true]) w' := fun w' => run_asserted2 71 29 _ _ w' Tryz.underlying71
  have k0 := lk_cell (i := 0) hg rfl
  have k1 := lk_cell (i := 1) hg rfl
  have hgl : g < w.heap.size := (Array.getElem?_eq_some_iff.1 hg).1
  go_enter Tryz.func15, Tryz.ntmps15
  go_wp2_with fail
  refine go_start (fun w' => Below w.heap.size w w') [] [.p 0, .p 1, .p 2, .t 3, .p 4, .p 5, .p 6, .t 7, .p 8, .p 9, .p 10] (by kernel_rfl) (by kernel_rfl) (fun c d v a w h => by cases d <;> exact h) ((Below.refl _ w).drew) (fun w2 hS2 => ?_)
  repeat first
  | refine go_p (v := ?_) (b := ?_) rfl (.inl ⟨by rfl, ?_⟩) ?_ ?_
    rotate_left 2
    · intro w'; go_simp; with_reducible rfl
    · simp only [Act.put, pu_, pz_, ps_, i64_w, i32_w]; rfl
  | refine go_t (v := ?_) (b := ?_) rfl (.inl ⟨by rfl, ?_⟩) ?_ ?_
    rotate_left 2
    · intro w' hS; have hc := Below.cells hS; go_simp; with_reducible rfl
    · simp only [Act.put, pu_, pz_, ps_, i64_w, i32_w]; rfl
  refine go_done ?_
  go_wp2_with fail
  go_ret3
  exact ⟨rfl, hS2⟩
set_option maxHeartbeats 4000000 in
set_option maxRecDepth 100000 in
theorem wrong_calls (w : World) (s : ByteArray) (c p m : Int) (hs : s.size ≤ 140737488351232) (hm : w.cell? ⟨2, 0, none⟩ = some (.int .i64 m)) (h2 : 2 < w.heap.size) (hT : Lib.Utf8Tabs 0 1 w) (h : Lx.lex clC s false false = .error (c, p)) :
    Calls Tryz.prog 38 #[.string s, .int .i64 c, .int .i64 p] w fun e w' => e = .returned (.bool true) ∧ Below w.heap.size w w' := by
  have HL := Lib.hid (lex_calls w s false false m hs hm h2 hT)
  rw [h] at HL
  clear hm h2 hT h
  go_enter Tryz.func38, Tryz.ntmps38
  go_wp2_with fail
  refine HL.out.mono ?_
  rintro e w1 ⟨hb, g, rfl, hg, hgc⟩
  have HB := Lib.hid hb
  have HT := Lib.hid (told_some w1 g c p hgc)
  clear hb hg hgc HL
  go_wp2_with fail
  refine HT.out.mono ?_
  rintro e w2 ⟨rfl, hb⟩
  have HB2 := Lib.hid (Below.up HB.out hb)
  clear hb HT
  go_wp2_with fail
  go_ret
  exact ⟨rfl, HB2.out⟩
theorem ex_a : Lx.lex clC ⟨#[97, 42]⟩ false false = .ok [⟨1, 0, 1, 0, 0, 0, [⟨97, 97⟩]⟩, ⟨2, 1, 2, 0, 0, -1, []⟩] := by kernel_rfl
theorem ex_b : Lx.lex clC ⟨#[97, 92, 123, 50]⟩ false false = .error (36, 1) := by kernel_rfl
theorem ex_c : Lx.lex clC ⟨#[91, 122, 45, 97, 93]⟩ false false = .error (34, 1) := by kernel_rfl
theorem ex_d : Lx.lex clC ⟨#[97, 92]⟩ false false = .error (31, 1) := by kernel_rfl
theorem ex_e : Lx.lex clC ⟨#[92, 123, 50, 92, 125]⟩ false false = .error (38, 0) := by kernel_rfl
theorem ToksAt.form2 {W : World} {base : Nat} {V : Value} {out : List Tok} (h : ToksAt W base V out) : ∃ A c, V = .slice A out.length c ∧ out.length ≤ c ∧ ∃ rv : Nat → Value, ∀ j t, out[j]? = some t → (∃ g, A = some ⟨g, 0, none⟩ ∧ ∀ i u, (tokV t (rv j))[i]? = some u → W.cell? ⟨g, j * 7 + i, none⟩ = some u) ∧ RanAt W base V (rv j) t.r := by
  obtain ⟨cs, rv, h1, h2, h3⟩ := h
  have hl := flat7_length cs out.length h1
  rcases h2.2 with ⟨rfl, h0⟩ | ⟨g, cap, cur, rfl, hb, hh, hc, hm, hs, ht⟩
  · refine ⟨none, 0, by rw [h0], by omega, rv, fun j t ht => ?_⟩
    have := (List.getElem?_eq_some_iff.1 ht).1
    omega
  · refine ⟨_, cap, rfl, hc, rv, fun j t hj => ⟨⟨g, rfl, fun i u hu => ?_⟩, (h3 j t hj).2.1⟩⟩
    have hjl := (List.getElem?_eq_some_iff.1 hj).1
    have hi : i < 7 := by have := (List.getElem?_eq_some_iff.1 hu).1; simpa [tokV] using this
    have h4 := flat7_at cs out.length h1 j hjl i hi
    rw [(h3 j t hj).1, hu, ← ht, List.getElem?_take] at h4
    split at h4
    · exact lk_cell hh (by simpa using h4)
    · cases h4
end Go.Proofs.YtamhkdlcoghdbaaGreatDoor.PCls
