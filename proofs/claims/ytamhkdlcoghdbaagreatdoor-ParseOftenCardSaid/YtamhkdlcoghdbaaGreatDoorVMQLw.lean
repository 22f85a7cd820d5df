/- Put together (wip/tools/pack.py): QLw, QLz, QRm, QLy, QRo. -/
import Derived.Test.YtamhkdlcoghdbaaGreatDoorVMQLe
/- Out of Lw (wip/tools/prune2.py): the declarations alone that the texts of the trees name. -/
namespace Go.Proofs.YtamhkdlcoghdbaaGreatDoor.PCls
open Go.RowKit Go.Shelf Go.Proofs.YtamhkdlcoghdbaaGreatDoorW.PrintWords Go.Proofs.YtamhkdlcoghdbaaGreatDoorW.PrintLast Go.Proofs.YtamhkdlcoghdbaaGreatDoorW.PrintMore
set_option linter.unusedVariables false
set_option linter.unusedSimpArgs false
/-- what Lex hands back -/
def LexAt (W w' : World) (e : Ending) (r : Except Er (List Tok)) : Prop := Below W.heap.size W w' ∧ match r with
 | .error x => ∃ g, e = .returned (.tuple #[.slice none 0 0, .iface 71 (.pointer (some ⟨g, 0, none⟩))]) ∧ W.heap.size ≤ g ∧ w'.heap[g]? = some (.cells #[.int .i64 x.1, .int .i64 x.2] 78 (0, 0))
 | .ok out => ∃ V', e = .returned (.tuple #[V', .nilIface]) ∧ ToksAt w' W.heap.size V' out
theorem alloc_at {w : World} {o : Obj} {n : Nat} (h : n = w.heap.size) : (w.alloc o).heap[n]? = some o := by subst h; exact heap_alloc_new w o
theorem ToksAt.lower {W : World} {base b : Nat} {V : Value} {out : List Tok} (h : ToksAt W base V out) (hb : b ≤ base) : ToksAt W b V out := by
 obtain ⟨cs, rv, h1, h2, h3⟩ := h
 refine ⟨cs, rv, h1, own_weaken h2 hb, fun j t ht => ?_⟩
 obtain ⟨e, ⟨o1, o2⟩, hd⟩ := h3 j t ht
 exact ⟨e, ⟨own_weaken o1 hb, o2⟩, hd⟩
theorem often_put {s : ByteArray} {x y : Lx.St} {c e : Nat} (h : Lx.often s x c e = .ok y) : ∃ t n, y = Lx.put x t n := by
 unfold Lx.often at h
 split at h
 ·cases h
 split at h
 ·cases h; exact ⟨_, _, rfl⟩
 split at h
 ·cases h; exact ⟨_, _, rfl⟩
 split at h
 ·cases h
 ·cases h; exact ⟨_, _, rfl⟩
theorem escape_put {C : CL} {s : ByteArray} {fold : Bool} {x y : Lx.St} (h : Lx.escape C s fold x = .ok y) : ∃ t n, y = Lx.put x t n := by
 unfold Lx.escape at h
 split at h
 ·cases h
 simp only at h
 repeat first
  | (split at h; · (cases h; exact ⟨_, _, rfl⟩))
  | (split at h; · exact often_put h)
 cases h
theorem bracket_put {C : CL} {s : ByteArray} {chars fold : Bool} {x y : Lx.St} (h : Lx.bracket C s chars fold x = .ok y) : ∃ t n, y = Lx.put x t n := by
 unfold Lx.bracket at h
 simp only at h
 split at h
 ·cases h
 ·cases h; exact ⟨_, _, rfl⟩
theorem next_put {s : ByteArray} {chars fold : Bool} {x y : Lx.St} (h : Lx.next clC s chars fold x = .ok y) : ∃ t n, y = Lx.put x t n := by
 rw [next_eq] at h
 split at h
 ·cases h
 split at h
 ·exact escape_put h
 split at h
 ·exact bracket_put h
 repeat (split at h; · (cases h; exact ⟨_, _, rfl⟩))
 cases h; exact ⟨_, _, rfl⟩
theorem next_length {s : ByteArray} {chars fold : Bool} {x y : Lx.St} (h : Lx.next clC s chars fold x = .ok y) : y.out.length = x.out.length + 1 := by
 obtain ⟨t, n, rfl⟩ := next_put h
 simp [Lx.put]
theorem lrun_stop {s : ByteArray} {chars fold : Bool} {k : Nat} {x : Lx.St} (h : ¬ x.sat < s.size) : Lx.run clC s chars fold k x = .ok x.out := by
 cases k with
 | zero => rfl
 | succ k => unfold Lx.run; rw [if_neg h]
theorem run_step {s : ByteArray} {chars fold : Bool} {k : Nat} {x : Lx.St} (h : x.sat < s.size) : Lx.run clC s chars fold (k + 1) x = match Lx.next clC s chars fold x with
  | .error e => .error e
  | .ok y => Lx.run clC s chars fold k y := by
 conv => lhs; unfold Lx.run
 rw [if_pos h]
 rfl
theorem lex_results (tmps : Array Value) (w : World) (a b : Nat) (va vb : Value) (h4 : tmps.getD 4 undef = .pointer (some ⟨a, 0, none⟩)) (h5 : tmps.getD 5 undef = .pointer (some ⟨b, 0, none⟩)) (ho : w.heap[a]? = some (.cells #[va] 25 (0, 0))) (he : w.heap[b]? = some (.cells #[vb] 29 (0, 0))) :
  (results Tryz.f14 tmps).run Tryz.prog w = .ok (.tuple #[va, vb]) w := by
 have h4' : tmps[4]?.getD undef = .pointer (some ⟨a, 0, none⟩) := by simpa using h4
 have h5' : tmps[5]?.getD undef = .pointer (some ⟨b, 0, none⟩) := by simpa using h5
 have c1 := lk_cell (i := 0) ho rfl
 have c2 := lk_cell (i := 0) he rfl
 simp only [results, show Tryz.f14.results = #[.cell 4 25, .cell 5 29] from rfl]
 simp [Sem.run_bind, Result.andThen, h4', h5', go_sem, c1, c2]
theorem lex_panic (W w : World) (s : ByteArray) (chars fold : Bool) (tmps : Array Value) (g : Nat) (c p : Int) (h4 : tmps.getD 4 undef = .pointer (some ⟨W.heap.size + 1, 0, none⟩)) (h5 : tmps.getD 5 undef = .pointer (some ⟨W.heap.size + 1 + 1, 0, none⟩))
  (ho : w.heap[W.heap.size + 1]? = some (.cells #[.slice none 0 0] 25 (0, 0))) (he : w.heap[W.heap.size + 1 + 1]? = some (.cells #[.nilIface] 29 (0, 0))) (hb : Below W.heap.size W w) (hg : W.heap.size + 3 ≤ g) (hgc : w.heap[g]? = some (.cells #[.int .i64 c, .int .i64 p] 78 (0, 0)))
  (HX : Lx.lex clC s chars fold = .error (c, p)) :
  Leaves Tryz.prog Tryz.f14 tmps (fun e w' => LexAt W w' e (Lx.lex clC s chars fold)) [{ target := Target.fn (Fn.func 40) #[.pointer (some ⟨W.heap.size + 1, 0, none⟩), .pointer (some ⟨W.heap.size + 1 + 1, 0, none⟩)], args := #[] }] (.panicking [⟨.iface 71 (.pointer (some ⟨g, 0, none⟩)), false, false⟩]) w := by
 refine leaves_cons (f := 40) (args := #[.pointer (some ⟨W.heap.size + 1, 0, none⟩), .pointer (some ⟨W.heap.size + 1 + 1, 0, none⟩)]) (by simp) (by simp [go_sem]) ?_
 refine (catch_panicking (W.heap.size + 1) (W.heap.size + 1 + 1) g _ w [] ho he (by omega)).mono ?_
 rintro e u' w'' ⟨rfl, rfl, rfl⟩
 have ho1 := set_blk (W := w.drew) ho 0 (.slice none 0 0)
 have he1 := (Below.heap_setCell w.drew ⟨W.heap.size + 1, 0, none⟩ (.slice none 0 0) (W.heap.size + 1 + 1) (by simp)).trans he
 have ho2 := (Below.heap_setCell (w.drew.setCell ⟨W.heap.size + 1, 0, none⟩ (.slice none 0 0)) ⟨W.heap.size + 1 + 1, 0, none⟩ (.iface 71 (.pointer (some ⟨g, 0, none⟩))) (W.heap.size + 1) (by simp)).trans ho1
 have he2 := set_blk he1 0 (.iface 71 (.pointer (some ⟨g, 0, none⟩)))
 have hg2 := (Below.heap_setCell (w.drew.setCell ⟨W.heap.size + 1, 0, none⟩ (.slice none 0 0)) ⟨W.heap.size + 1 + 1, 0, none⟩ (.iface 71 (.pointer (some ⟨g, 0, none⟩))) g (by simp only; omega)).trans ((Below.heap_setCell w.drew ⟨W.heap.size + 1, 0, none⟩ (.slice none 0 0) g (by simp only; omega)).trans hgc)
 have hb2 := ((hb.drew).setCell (p := ⟨W.heap.size + 1, 0, none⟩) (Nat.le_succ _) (.slice none 0 0)).setCell (p := ⟨W.heap.size + 1 + 1, 0, none⟩) (by simp only; omega) (.iface 71 (.pointer (some ⟨g, 0, none⟩)))
 exact ⟨_, lex_results tmps _ _ _ _ _ h4 h5 ho2 he2, hb2, by rw [HX]; exact ⟨g, rfl, by omega, hg2⟩⟩
theorem lex_return (W w : World) (s : ByteArray) (chars fold : Bool) (tmps : Array Value) (V : Value) (out : List Tok) (h4 : tmps.getD 4 undef = .pointer (some ⟨W.heap.size + 1, 0, none⟩)) (h5 : tmps.getD 5 undef = .pointer (some ⟨W.heap.size + 1 + 1, 0, none⟩))
  (ho : w.heap[W.heap.size + 1]? = some (.cells #[V] 25 (0, 0))) (he : w.heap[W.heap.size + 1 + 1]? = some (.cells #[.nilIface] 29 (0, 0))) (hb : Below W.heap.size W w) (ht : ToksAt w W.heap.size V out)
  (HX : Lx.lex clC s chars fold = .ok out) :
  Leaves Tryz.prog Tryz.f14 tmps (fun e w' => LexAt W w' e (Lx.lex clC s chars fold)) [{ target := Target.fn (Fn.func 40) #[.pointer (some ⟨W.heap.size + 1, 0, none⟩), .pointer (some ⟨W.heap.size + 1 + 1, 0, none⟩)], args := #[] }] .returning w := by
 refine leaves_cons (f := 40) (args := #[.pointer (some ⟨W.heap.size + 1, 0, none⟩), .pointer (some ⟨W.heap.size + 1 + 1, 0, none⟩)]) (by simp) (by simp [go_sem]) ?_
 refine (catch_idle ⟨W.heap.size + 1, 0, none⟩ ⟨W.heap.size + 1 + 1, 0, none⟩ w).mono ?_
 rintro e u' w'' ⟨rfl, rfl, rfl⟩
 exact ⟨_, lex_results tmps _ _ _ _ _ h4 h5 ho he, hb, by rw [HX]; exact ⟨V, rfl, ht⟩⟩
set_option maxHeartbeats 4000000 in
set_option maxRecDepth 100000 in
theorem lex_calls (W : World) (s : ByteArray) (chars fold : Bool) (m : Int) (hs : s.size ≤ 140737488351232) (hm : W.cell? ⟨2, 0, none⟩ = some (.int .i64 m)) (h2 : 2 < W.heap.size) (hT : Lib.Utf8Tabs 0 1 W) :
  Calls Tryz.prog 14 #[.string s, .agg #[.bool chars, .bool fold]] W fun e w' => LexAt W w' e (Lx.lex clC s chars fold) := by
 have hmf : ∀ (fn : Fn) (first cap : Array Value) (w : World), (Instr.makeFunc fn first cap).run Tryz.prog w = .ok (.func fn first cap) w := fun _ _ _ _ => rfl
 have hb1 := (Below.refl W.heap.size W).alloc (Nat.le_refl _) (.cells #[.bool chars, .bool fold] 23)
 have hb2 := hb1.alloc hb1.size (.cells #[.slice none 0 0] 25)
 have hb3 := hb2.alloc hb2.size (.cells #[.nilIface] 29)
 by_cases hbig : 2000 < s.size
 ·have HX := Lib.hid (show Lx.lex clC s chars fold = .error (30, 0) by unfold Lx.lex; rw [if_pos hbig])
  have hbi : (2000 : Int) < (s.size : Int) := by omega
  clear hm h2 hT
  go_enter_defers Tryz.func14, Tryz.ntmps14
  go_wp2_with fail
  generalize hW3 : ((W.alloc (.cells #[.bool chars, .bool fold] 23)).alloc (.cells #[.slice none 0 0] 25)).alloc (.cells #[.nilIface] 29) = W3
  have hz3 : W3.heap.size = W.heap.size + 1 + 1 + 1 := by rw [← hW3]; simp
  have ho : W3.heap[W.heap.size + 1]? = some (.cells #[.slice none 0 0] 25 (0, 0)) := by rw [← hW3]; exact (heap_alloc_old _ _ (by simp)).trans (heap_alloc2_new W _ _)
  have he : W3.heap[W.heap.size + 1 + 1]? = some (.cells #[.nilIface] 29 (0, 0)) := by rw [← hW3]; exact alloc_at (by simp)
  rw [hW3] at hb3
  refine (fail_calls _ _ _).mono ?_
  rintro e w2 ⟨⟨g, rfl, hg, hgc⟩, hb⟩
  exact lex_panic W w2 s chars fold _ g 30 0 rfl rfl ((hb.block _ (by omega)).trans ho) ((hb.block _ (by omega)).trans he) (Below.up hb3 hb) (by omega) hgc HX.out
 ·have HX := Lib.hid (show Lx.lex clC s chars fold = Lx.run clC s chars fold (s.size + 1) ⟨0, []⟩ by unfold Lx.lex; rw [if_neg hbig])
  have hbi : ¬ (2000 : Int) < (s.size : Int) := by omega
  go_enter_defers Tryz.func14, Tryz.ntmps14
  go_wp2_with fail
  generalize hW3 : ((W.alloc (.cells #[.bool chars, .bool fold] 23)).alloc (.cells #[.slice none 0 0] 25)).alloc (.cells #[.nilIface] 29) = W3
  have hz3 : W3.heap.size = W.heap.size + 1 + 1 + 1 := by rw [← hW3]; simp
  have ho3 : W3.heap[W.heap.size + 1]? = some (.cells #[.slice none 0 0] 25 (0, 0)) := by rw [← hW3]; exact (heap_alloc_old _ _ (by simp)).trans (heap_alloc2_new W _ _)
  have he3 : W3.heap[W.heap.size + 1 + 1]? = some (.cells #[.nilIface] 29 (0, 0)) := by rw [← hW3]; exact alloc_at (by simp)
  rw [hW3] at hb3
  have hb4 := hb3.alloc hb3.size (.cells #[.string s, .bool chars, .bool fold, .int .i64 0, .slice none 0 0] 75)
  generalize hW4 : W3.alloc (.cells #[.string s, .bool chars, .bool fold, .int .i64 0, .slice none 0 0] 75) = W4
  rw [hW4] at hb4
  have hz4 : W4.heap.size = W.heap.size + 1 + 1 + 1 + 1 := by rw [← hW4]; simp [hz3]
  have ho : W4.heap[W.heap.size + 1]? = some (.cells #[.slice none 0 0] 25 (0, 0)) := by rw [← hW4]; exact (heap_alloc_old _ _ (by omega)).trans ho3
  have he : W4.heap[W.heap.size + 1 + 1]? = some (.cells #[.nilIface] 29 (0, 0)) := by rw [← hW4]; exact (heap_alloc_old _ _ (by omega)).trans he3
  obtain ⟨B, hB⟩ : ∃ B, B = W.heap.size + 1 + 1 + 1 := ⟨_, rfl⟩
  have hst : ScSt W4 B (B + 1) s chars fold ⟨0, []⟩ (.slice none 0 0) := ⟨by rw [← hW4]; exact alloc_at (by omega), ToksAt.nil _ _, Nat.lt_succ_self _, by omega, Nat.le_refl _, Nat.zero_le _, by show s.size ≤ 2000; omega⟩
  rw [← hB]
  have HOE := Lib.hid (And.intro ho (And.intro he (And.intro hb4 (And.intro hB hz4))))
  have HM := Lib.hid (fun (w : World) (hb : Below W.heap.size W w) => (hb.cell (p := ⟨2, 0, none⟩) h2).trans hm)
  have HM2 := Lib.hid (fun (w : World) (hb : Below W.heap.size W w) => Nat.lt_of_lt_of_le h2 hb.size)
  have HT := Lib.hid hT
  have HST := Lib.hid hst
  clear hst hB ho he hb4 hW4 hz4 hW3 hz3 ho3 he3 hb3 hb2 hb1 hm h2 hT
  go_loopg [24] (s.size + 1) (fun gg _ wr => ∃ (x : Lx.St) (V : Value) (k : Nat), Aside0 (ScSt wr B (B + 1) s chars fold x V) ∧ Aside0 (Stp W4 wr B (B + 1)) ∧ s.size + 1 ≤ x.out.length + k ∧ s.size + 1 - x.out.length ≤ gg ∧ Hid (Lx.lex clC s chars fold = Lx.run clC s chars fold k x))
  case atStart => exact ⟨⟨0, []⟩, .slice none 0 0, s.size + 1, ⟨HST.out⟩, ⟨⟨rfl, rfl, rfl, Nat.le_refl _, fun _ _ _ => rfl⟩⟩, by simp, by simp, HX⟩
  case round =>
   obtain ⟨x, V, k, HS, HP, hk, hgg, HR⟩ := hrel
   have c0 := HS.out.sc.c0
   have c3 := HS.out.sc.c3
   have hlen := HS.out.len
   have hbw : Below W.heap.size W wr := Below.trans HOE.out.2.2.1 (HP.out.below (by have := HOE.out.2.2.2.1; omega) (by have := HOE.out.2.2.2.1; omega))
   by_cases hx : x.sat < s.size
   ·obtain ⟨k, rfl⟩ : ∃ j, k = j + 1 := ⟨k - 1, by omega⟩
    have HN := Lib.hid (next_calls wr B (B + 1) s chars fold x V m HS.out hx (HM.out wr hbw) (HM2.out wr hbw) (tabs_below HT.out hbw))
    have hlt : (x.sat : Int) < (s.size : Int) := by omega
    have HR2 := Lib.hid (HR.out.trans (run_step hx))
    have HBW := Lib.hid hbw
    clear HR hbw HX
    go_wp2_with fail
    refine HN.out.mono ?_
    intro e w2 hst
    clear HN
    cases hn : Lx.next clC s chars fold x with
    | error y =>
     rw [hn] at hst
     obtain ⟨⟨g, rfl, hg, hgc⟩, hb⟩ := hst
     have hXX := HR2.out.trans (by rw [hn])
     have hoo := HOE.out
     have hzz := HP.out.size
     exact lex_panic W w2 s chars fold _ g y.1 y.2 rfl rfl ((hb.block _ (by omega)).trans ((HP.out.block _ (by omega) (by omega)).trans hoo.1)) ((hb.block _ (by omega)).trans ((HP.out.block _ (by omega) (by omega)).trans hoo.2.1)) (Below.up HBW.out hb) (by omega) hgc hXX
    | ok y =>
     rw [hn] at hst
     obtain ⟨rfl, ⟨V', hs'⟩, hp'⟩ := hst
     have HR3 := Lib.hid (HR2.out.trans (by rw [hn]))
     have hyl := next_length hn
     have HS2 := Lib.hid hs'
     have HP2 := Lib.hid (HP.out.trans hp')
     clear hs' hp' hn HR2 HP HS HBW hlt c0 c3
     go_wp2_with fail
     go_roundg (s.size + 1 - y.out.length)
     case measure => omega
     case rel => exact ⟨y, V', k, ⟨HS2.out⟩, ⟨HP2.out⟩, by omega, Nat.le_refl _, HR3⟩
   ·obtain ⟨AV, cV, rfl, _⟩ := HS.out.toks.form
    have hlt : ¬ (x.sat : Int) < (s.size : Int) := by omega
    have HR2 := Lib.hid (HR.out.trans (lrun_stop hx))
    have hoo := HOE.out
    have ho2 := (HP.out.block _ (by omega) (by omega)).trans hoo.1
    have he2 := (HP.out.block _ (by omega) (by omega)).trans hoo.2.1
    have hfo : ∀ o, wr.frozen? ⟨W.heap.size + 1, o, none⟩ = false := fun o => by simp only [World.frozen?, ho2]; simp
    have hfe : ∀ o, wr.frozen? ⟨W.heap.size + 1 + 1, o, none⟩ = false := fun o => by simp only [World.frozen?, he2]; simp
    have co := lk_cell (i := 0) ho2 rfl
    have ce := lk_cell (i := 0) he2 rfl
    have c4 := HS.out.sc.c4
    have HZ := Lib.hid (And.intro ho2 (And.intro he2 hbw))
    clear hoo ho2 he2 hbw HR HX
    go_wp2_with fail
    have hoo := HOE.out
    have ho1 := set_blk HZ.out.1 0 (.slice AV x.out.length cV)
    have he1 := (Below.heap_setCell wr ⟨W.heap.size + 1, 0, none⟩ (.slice AV x.out.length cV) (W.heap.size + 1 + 1) (by simp)).trans HZ.out.2.1
    have ho2 := (Below.heap_setCell (wr.setCell ⟨W.heap.size + 1, 0, none⟩ (.slice AV x.out.length cV)) ⟨W.heap.size + 1 + 1, 0, none⟩ .nilIface (W.heap.size + 1) (by simp)).trans ho1
    have he2 := set_blk he1 0 .nilIface
    have hb2 := (HZ.out.2.2.setCell (p := ⟨W.heap.size + 1, 0, none⟩) (Nat.le_succ _) (.slice AV x.out.length cV)).setCell (p := ⟨W.heap.size + 1 + 1, 0, none⟩) (by simp only; omega) .nilIface
    have ht : ToksAt ((wr.setCell ⟨W.heap.size + 1, 0, none⟩ (.slice AV x.out.length cV)).setCell ⟨W.heap.size + 1 + 1, 0, none⟩ .nilIface) (B + 1) (.slice AV x.out.length cV) x.out := HS.out.toks.move (fun k hk _ => (Below.heap_setCell _ ⟨W.heap.size + 1 + 1, 0, none⟩ .nilIface k (by simp only; omega)).trans (Below.heap_setCell wr ⟨W.heap.size + 1, 0, none⟩ (.slice AV x.out.length cV) k (by simp only; omega)))
    exact lex_return W _ s chars fold _ _ x.out rfl rfl ho2 he2 hb2 (ht.lower (by omega)) HR2.out
end Go.Proofs.YtamhkdlcoghdbaaGreatDoor.PCls
/- Out of Lz (wip/tools/prune2.py): the declarations alone that the texts of the trees name. -/
namespace Go.Proofs.YtamhkdlcoghdbaaGreatDoor.PCls
open Go.RowKit Go.Shelf Go.Proofs.YtamhkdlcoghdbaaGreatDoorW.PrintWords Go.Proofs.YtamhkdlcoghdbaaGreatDoorW.PrintLast Go.Proofs.YtamhkdlcoghdbaaGreatDoorW.PrintMore
set_option linter.unusedVariables false
set_option linter.unusedSimpArgs false
theorem run_asserted2 (t xT e : TypeId) (v : Value) (w : World) (h : Tryz.prog.underlying t = some (.pointer e)) : (Instr.typeAssert (.iface t v) xT t true).run Tryz.prog w = .ok (.tuple #[v, .bool true]) w := by
 simp [Instr.typeAssert, run_underlying h, go_sem, Result.andThen]
theorem ToksAt.form2 {W : World} {base : Nat} {V : Value} {out : List Tok} (h : ToksAt W base V out) : ∃ A c, V = .slice A out.length c ∧ out.length ≤ c ∧ ∃ rv : Nat → Value, ∀ j t, out[j]? = some t → (∃ g, A = some ⟨g, 0, none⟩ ∧ ∀ i u, (tokV t (rv j))[i]? = some u → W.cell? ⟨g, j * 7 + i, none⟩ = some u) ∧ RanAt W base V (rv j) t.r := by
 obtain ⟨cs, rv, h1, h2, h3⟩ := h
 have hl := flat7_length cs out.length h1
 rcases h2.2 with ⟨rfl, h0⟩ | ⟨g, cap, cur, rfl, hb, hh, hc, hm, hs, ht⟩
 ·refine ⟨none, 0, by rw [h0], by omega, rv, fun j t ht => ?_⟩
  have := (List.getElem?_eq_some_iff.1 ht).1
  omega
 ·refine ⟨_, cap, rfl, hc, rv, fun j t hj => ⟨⟨g, rfl, fun i u hu => ?_⟩, (h3 j t hj).2.1⟩⟩
  have hjl := (List.getElem?_eq_some_iff.1 hj).1
  have hi : i < 7 := by have := (List.getElem?_eq_some_iff.1 hu).1; simpa [tokV] using this
  have h4 := flat7_at cs out.length h1 j hjl i hi
  rw [(h3 j t hj).1, hu, ← ht, List.getElem?_take] at h4
  split at h4
  ·exact lk_cell hh (by simpa using h4)
  ·cases h4
end Go.Proofs.YtamhkdlcoghdbaaGreatDoor.PCls
/- Out of Rm (wip/tools/prune2.py): the declarations alone that the texts of the trees name. -/
namespace Go.Proofs.YtamhkdlcoghdbaaGreatDoor.PCls
open Go.RowKit Go.Shelf Go.Proofs.YtamhkdlcoghdbaaGreatDoorW.PrintWords Go.Proofs.YtamhkdlcoghdbaaGreatDoorW.PrintLast Go.Proofs.YtamhkdlcoghdbaaGreatDoorW.PrintMore
set_option linter.unusedVariables false
set_option linter.unusedSimpArgs false
theorem own_form {W : World} {base : Nat} {e : TypeId} {size n : Nat} {v : Value} {xs : List Value} (h : W.ownsRow base e size v n xs) : ∃ A c, v = .slice A n c ∧ n ≤ c := by
 rcases h.2 with ⟨rfl, h0⟩ | ⟨g, cap, cur, rfl, _, _, hc, _⟩
 ·exact ⟨none, 0, by rw [h0], by omega⟩
 ·exact ⟨_, _, rfl, hc⟩
end Go.Proofs.YtamhkdlcoghdbaaGreatDoor.PCls
/- Out of Ly (wip/tools/prune2.py): the declarations alone that the texts of the trees name. -/
namespace Go.Proofs.YtamhkdlcoghdbaaGreatDoor.PCls
set_option linter.unusedVariables false
set_option linter.unusedSimpArgs false
def EOk (s : ByteArray) (e : Er) : Prop := 0 ≤ e.2 ∧ e.2 ≤ s.size ∧ (e.1 = 20 ∨ (30 ≤ e.1 ∧ e.1 ≤ 38))
theorem named_err {s : ByteArray} {chars : Bool} {x0 p : Nat} {sign : UInt8} {e : Er} (h : Lx.named clC s chars x0 p sign = .error e) (hx : x0 ≤ s.size) (hp : p + 2 ≤ s.size) : EOk s e := by
 by_cases h58 : sign = 58
 ·subst h58
  rw [named58_eq clC s chars x0 p hp] at h
  split at h
  ·cases h; exact ⟨by simp only; omega, by simp only; omega, .inr (by simp)⟩
  ·split at h
   ·cases h
   ·cases h; exact ⟨by simp only; omega, by simp only; omega, .inr (by simp)⟩
 ·rw [named_el_eq clC s chars x0 p sign h58] at h
  split at h
  ·cases h; exact ⟨by simp only; omega, by simp only; omega, .inr (by simp)⟩
  split at h
  ·cases h; exact ⟨by simp only; omega, by simp only; omega, .inr (by simp)⟩
  ·cases h
theorem named_sat {s : ByteArray} {chars : Bool} {x0 p : Nat} {sign : UInt8} {i : It} (h : Lx.named clC s chars x0 p sign = .ok i) (hp : p + 2 ≤ s.size) : 0 ≤ i.sat ∧ i.sat ≤ s.size := by
 by_cases h58 : sign = 58
 ·subst h58
  rw [named58_eq clC s chars x0 p hp] at h
  split at h
  ·cases h
  ·split at h
   ·cases h; simp
   ·cases h
 ·rw [named_el_eq clC s chars x0 p sign h58] at h
  split at h
  ·cases h
  split at h
  ·cases h
  ·cases h; simp only; omega
theorem item_err {s : ByteArray} {chars : Bool} {x0 p : Nat} {any : Bool} {e : Er} (h : Lx.item clC s chars x0 p any = .error e) (hx : x0 ≤ s.size) : EOk s e := by
 rw [item_eq] at h
 split at h
 ·rename_i h1; exact named_err h hx (here_le h1)
 split at h
 ·rename_i h1; exact named_err h hx (here_le h1)
 split at h
 ·rename_i h1; exact named_err h hx (here_le h1)
 unfold itemC at h
 split at h
 ·cases h; exact ⟨by simp only; omega, by simp only; omega, .inr (by simp)⟩
 rename_i hn
 have hp : p < s.size := by
  rcases Nat.lt_or_ge p s.size with h | h
  ·exact h
  ·exact absurd (by rw [unit_none s chars p (by omega)]) hn
 split at h
 ·cases h; exact ⟨by simp only; omega, by simp only; omega, .inl rfl⟩
 split at h
 ·split at h <;> cases h <;> exact ⟨by simp only; omega, by simp only; omega, .inr (by simp)⟩
 ·cases h
theorem item_sat {s : ByteArray} {chars : Bool} {x0 p : Nat} {any : Bool} {i : It} (h : Lx.item clC s chars x0 p any = .ok i) : 0 ≤ i.sat ∧ i.sat ≤ s.size := by
 rw [item_eq] at h
 split at h
 ·rename_i h1; exact named_sat h (here_le h1)
 split at h
 ·rename_i h1; exact named_sat h (here_le h1)
 split at h
 ·rename_i h1; exact named_sat h (here_le h1)
 unfold itemC at h
 split at h
 ·cases h
 rename_i hn
 have hp : p < s.size := by
  rcases Nat.lt_or_ge p s.size with h | h
  ·exact h
  ·exact absurd (by rw [unit_none s chars p (by omega)]) hn
 split at h
 ·cases h
 split at h
 ·split at h <;> cases h
 ·cases h; simp only; omega
theorem span_err {s : ByteArray} {chars : Bool} {x0 p : Nat} {a : It} {e : Er} (h : Lx.span clC s chars x0 a p = .error e) (hx : x0 ≤ s.size) (ha : 0 ≤ a.sat ∧ a.sat ≤ s.size) : EOk s e := by
 rw [span_eq] at h
 split at h
 ·cases h; exact ⟨ha.1, ha.2, .inr (by simp)⟩
 split at h
 ·cases h; exact ⟨ha.1, ha.2, .inr (by simp)⟩
 cases hr : Lx.item clC s chars x0 p true with
 | error y => rw [hr] at h; cases h; exact item_err hr hx
 | ok b =>
  rw [hr] at h
  simp only at h
  split at h
  ·cases h; exact ⟨ha.1, ha.2, .inr (by simp)⟩
  ·cases h
theorem part_err {s : ByteArray} {chars : Bool} {x0 p : Nat} {b : Bool} {e : Er} (h : Lx.part clC s chars x0 p b = .error e) (hx : x0 ≤ s.size) : EOk s e := by
 rw [part_eq] at h
 cases hr : Lx.item clC s chars x0 p b with
 | error y => rw [hr] at h; cases h; exact item_err hr hx
 | ok i =>
  rw [hr] at h
  simp only at h
  split at h
  ·exact span_err h hx (item_sat hr)
  ·cases h
theorem part_ok {s : ByteArray} {chars : Bool} {x0 p : Nat} {b : Bool} {i : It} (h : Lx.part clC s chars x0 p b = .ok i) : ∃ x : Nat, i.nx = x ∧ p < x ∧ x ≤ s.size + 2 := by
 rw [part_eq] at h
 cases hr : Lx.item clC s chars x0 p b with
 | error y => rw [hr] at h; cases h
 | ok j =>
  rw [hr] at h
  simp only at h
  obtain ⟨x, h1, h2, h3⟩ := (item_ok hr).n
  split at h
  ·obtain ⟨y, h4, h5, h6⟩ := (span_ok h).1.n
   rw [h1] at h5
   exact ⟨y, h4, by simp at h5; omega, h6⟩
  ·cases h; exact ⟨x, h1, h2, h3⟩
theorem parts_ok {s : ByteArray} {chars : Bool} {x0 : Nat} : ∀ (k p : Nat) (b : Bool) (l l' : List S64) (q : Nat), Lx.parts clC s chars x0 k p b l = .ok (l', q) → p ≤ q ∧ q + 1 ≤ s.size
 | 0, p, b, l, l', q, h => by cases h
 | k + 1, p, b, l, l', q, h => by
  rw [parts_eq] at h
  split at h
  ·rename_i h1
   cases h
   exact ⟨Nat.le_refl _, here_le h1.2⟩
  ·cases hr : Lx.part clC s chars x0 p b with
   | error y => rw [hr] at h; cases h
   | ok i =>
    rw [hr] at h
    obtain ⟨x, h1, h2, h3⟩ := part_ok hr
    have ih := parts_ok k _ _ _ _ _ h
    rw [h1] at ih
    simp at ih
    omega
theorem parts_err {s : ByteArray} {chars : Bool} {x0 : Nat} (hx : x0 ≤ s.size) : ∀ (k p : Nat) (b : Bool) (l : List S64) (e : Er), s.size + 3 ≤ p + k → p ≤ s.size + 2 → Lx.parts clC s chars x0 k p b l = .error e → EOk s e
 | 0, p, b, l, e, hk, hp, h => by omega
 | k + 1, p, b, l, e, hk, hp, h => by
  rw [parts_eq] at h
  split at h
  ·cases h
  ·cases hr : Lx.part clC s chars x0 p b with
   | error y => rw [hr] at h; cases h; exact part_err hr hx
   | ok i =>
    rw [hr] at h
    obtain ⟨x, h1, h2, h3⟩ := part_ok hr
    refine parts_err hx k _ _ _ _ ?_ ?_ h <;> rw [h1] <;> simp <;> omega
/-- a step: one token more -/
def Step1 (s : ByteArray) (x : Lx.St) (r : Except Er Lx.St) : Prop := match r with
 | .error e => EOk s e
 | .ok y => ∃ t e, y = Lx.put x t e ∧ x.sat < e ∧ e ≤ s.size ∧ 1 ≤ t.kind ∧ t.kind ≤ 8
theorem bracket_step {s : ByteArray} {chars fold : Bool} {x : Lx.St} (hx : x.sat < s.size) : Step1 s x (Lx.bracket clC s chars fold x) := by
 unfold Lx.bracket
 simp only
 cases hr : Lx.parts clC s chars x.sat (s.size + 2) (x.sat + 1 + if Lx.here s (x.sat + 1) [94] = true then 1 else 0) true [] with
 | error e => exact parts_err (by omega) _ _ _ _ _ (by omega) (by split <;> omega) hr
 | ok v =>
  obtain ⟨l, q⟩ := v
  have h := parts_ok _ _ _ _ _ _ hr
  exact ⟨_, _, rfl, by omega, h.2, by simp [Lx.tok], by simp [Lx.tok]⟩
theorem often_step {s : ByteArray} {x : Lx.St} {c e : Nat} (h1 : x.sat < e) (h2 : e ≤ s.size) : Step1 s x (Lx.often s x c e) := by
 unfold Lx.often
 split
 ·exact ⟨by simp only; omega, by simp only; omega, .inr (by simp)⟩
 split
 ·exact ⟨_, _, rfl, h1, h2, by simp [Lx.tok], by simp [Lx.tok]⟩
 split
 ·exact ⟨_, _, rfl, h1, h2, by simp [Lx.tok], by simp [Lx.tok]⟩
 cases hr : Lx.interval s x.sat e with
 | error y =>
  have hq : EOk s y := by
   obtain ⟨a1, ha⟩ : ∃ a1, a1 = Lx.number s (s.size + 1) e (-1) := ⟨_, rfl⟩
   obtain ⟨b1, hb⟩ : ∃ b1, b1 = (if 0 ≤ a1.1 ∧ Lx.here s a1.2 [44] = true then Lx.number s (s.size + 1) (a1.2 + 1) (-1) else (a1.1, a1.2)) := ⟨_, rfl⟩
   rw [interval_eq (q := x.sat) (a1 := a1.1) (a2 := a1.2) (b1 := b1.1) (b2 := b1.2) ha hb.symm] at hr
   split at hr
   ·cases hr; exact ⟨by simp only; omega, by simp only; omega, .inr (by simp)⟩
   split at hr
   ·cases hr; exact ⟨by simp only; omega, by simp only; omega, .inr (by simp)⟩
   ·cases hr
  exact hq
 | ok v =>
  obtain ⟨a, b, e2⟩ := v
  have h := interval_lim hr
  exact ⟨_, _, rfl, by omega, h.2, by simp [Lx.tok], by simp [Lx.tok]⟩
theorem escape_step {s : ByteArray} {fold : Bool} {x : Lx.St} (hx : x.sat < s.size) : Step1 s x (Lx.escape clC s fold x) := by
 unfold Lx.escape
 split
 ·exact ⟨by simp only; omega, by simp only; omega, .inr (by simp)⟩
 simp only
 split
 ·exact ⟨_, _, rfl, by omega, by omega, by simp [Lx.tok], by simp [Lx.tok]⟩
 split
 ·exact ⟨_, _, rfl, by omega, by omega, by simp [Lx.tok], by simp [Lx.tok]⟩
 split
 ·exact ⟨_, _, rfl, by omega, by omega, by simp [Lx.tok], by simp [Lx.tok]⟩
 split
 ·exact ⟨_, _, rfl, by omega, by omega, by simp [Lx.tok], by simp [Lx.tok]⟩
 split
 ·exact ⟨_, _, rfl, by omega, by omega, by simp [Lx.tok], by simp [Lx.tok]⟩
 split
 ·exact often_step (by omega) (by omega)
 ·exact ⟨by simp only; omega, by simp only; omega, .inr (by simp)⟩
theorem next_step {s : ByteArray} {chars fold : Bool} {x : Lx.St} (hx : x.sat < s.size) : Step1 s x (Lx.next clC s chars fold x) := by
 have hl := unit_lim s chars x.sat hx
 rw [next_eq]
 split
 ·exact ⟨by simp only; omega, by simp only; omega, .inl rfl⟩
 split
 ·exact escape_step hx
 split
 ·exact bracket_step hx
 split
 ·exact ⟨_, _, rfl, by omega, by omega, by simp [Lx.tok], by simp [Lx.tok]⟩
 split
 ·exact ⟨_, _, rfl, by omega, by omega, by simp [Lx.tok], by simp [Lx.tok]⟩
 split
 ·exact ⟨_, _, rfl, by omega, by omega, by simp [Lx.tok], by simp [Lx.tok]⟩
 split
 ·exact ⟨_, _, rfl, by omega, by omega, by simp [Lx.tok], by simp [Lx.tok]⟩
 ·exact ⟨_, _, rfl, by omega, by omega, by simp [Lx.tok], by simp [Lx.tok]⟩
/-- tokens that stand one behind the other, from p to q -/
def Stands : Nat → List Tok → Nat → Prop
 | p, [], q => p = q
 | p, t :: l, q => t.sat = (p : Int) ∧ ∃ e : Nat, t.fin = (e : Int) ∧ p < e ∧ 1 ≤ t.kind ∧ t.kind ≤ 8 ∧ Stands e l q
theorem Stands.snoc : ∀ {l : List Tok} {p q : Nat} {t : Tok} {e : Nat}, Stands p l q → q < e → 1 ≤ t.kind → t.kind ≤ 8 → Stands p (l ++ [{ t with sat := q, fin := e }]) e
 | [], p, q, t, e, h, h1, h2, h3 => by
  obtain rfl : p = q := h
  exact ⟨rfl, e, rfl, h1, h2, h3, rfl⟩
 | u :: l, p, q, t, e, h, h1, h2, h3 => by
  obtain ⟨a, f, b, c, d, g, hl⟩ := h
  exact ⟨a, f, b, c, d, g, hl.snoc h1 h2 h3⟩
theorem run_told {s : ByteArray} {chars fold : Bool} : ∀ (k : Nat) (x : Lx.St), s.size + 1 ≤ x.out.length + k → x.out.length ≤ x.sat → x.sat ≤ s.size → Stands 0 x.out x.sat → match Lx.run clC s chars fold k x with
  | .error e => EOk s e
  | .ok out => Stands 0 out s.size
 | 0, x, hk, h1, h2, h3 => by omega
 | k + 1, x, hk, h1, h2, h3 => by
  by_cases hx : x.sat < s.size
  ·rw [run_step hx]
   have hs := next_step (chars := chars) (fold := fold) hx
   cases hn : Lx.next clC s chars fold x with
   | error e => rw [hn] at hs; exact hs
   | ok y =>
    rw [hn] at hs
    obtain ⟨t, e, rfl, a, b, c, d⟩ := hs
    exact run_told k _ (by simp [Lx.put]; omega) (by simp [Lx.put]; omega) b (h3.snoc a c d)
  ·rw [lrun_stop hx]
   have : x.sat = s.size := by omega
   rw [this] at h3
   exact h3
theorem lex_told (s : ByteArray) (chars fold : Bool) : match Lx.lex clC s chars fold with
  | .error e => EOk s e
  | .ok out => Stands 0 out s.size := by
 by_cases h : 2000 < s.size
 ·rw [show Lx.lex clC s chars fold = .error (30, 0) by unfold Lx.lex; rw [if_pos h]]
  exact ⟨Int.le_refl _, Int.natCast_nonneg _, .inr (by simp)⟩
 ·rw [show Lx.lex clC s chars fold = Lx.run clC s chars fold (s.size + 1) ⟨0, []⟩ by unfold Lx.lex; rw [if_neg h]]
  exact run_told (s.size + 1) ⟨0, []⟩ (by simp) (by simp) (Nat.zero_le _) rfl
end Go.Proofs.YtamhkdlcoghdbaaGreatDoor.PCls
/- Out of Ro (wip/tools/prune2.py): the declarations alone that the texts of the trees name. -/
namespace Go.Proofs.YtamhkdlcoghdbaaGreatDoor.PCls
open Go.RowKit Go.Shelf Go.Proofs.YtamhkdlcoghdbaaGreatDoorW.PrintWords Go.Proofs.YtamhkdlcoghdbaaGreatDoorW.PrintLast Go.Proofs.YtamhkdlcoghdbaaGreatDoorW.PrintMore
set_option linter.unusedVariables false
set_option linter.unusedSimpArgs false
theorem stands_len : ∀ {l : List Tok} {p q : Nat}, Stands p l q → p + l.length ≤ q
 | [], p, q, h => Nat.le_of_eq h
 | u :: l, p, q, h => by
  obtain ⟨a, e, b, c, d, g, hl⟩ := h
  have := stands_len hl
  simp only [List.length_cons]; omega
theorem rowOf_set : ∀ (l : List S64) (k : Nat) (x : S64), k < l.length → rowOf (l.set k x) = ((rowOf l).set (k * 2) (.int .i64 x.f0)).set (k * 2 + 1) (.int .i64 x.f1)
 | [], k, x, h => by simp at h
 | y :: l, 0, x, _ => by simp [rowOf, enc2]
 | y :: l, k + 1, x, h => by
  have ih := rowOf_set l k x (by simpa using h)
  have e : ∀ z : S64, ∀ m : List S64, rowOf (z :: m) = .int .i64 z.f0 :: .int .i64 z.f1 :: rowOf m := fun z m => rfl
  rw [List.set_cons_succ, e, e, ih, show (k + 1) * 2 = k * 2 + 1 + 1 by omega, show k * 2 + 1 + 1 + 1 = (k * 2 + 1) + 1 + 1 by omega]
  rfl
theorem own_set {W : World} {base g n c t z : Nat} {xs : List Value} (h : W.ownsRow base t z (.slice (some ⟨g, 0, none⟩) n c) n xs) (o : Nat) (v : Value) : (W.setCell ⟨g, o, none⟩ v).ownsRow base t z (.slice (some ⟨g, 0, none⟩) n c) n (xs.set o v) := by
 refine ⟨by rw [List.length_set]; exact h.1, ?_⟩
 rcases h.2 with ⟨e, _⟩ | ⟨g', cap, cur, e, hb, hh, hc, hm, hs, ht⟩
 ·cases e
 ·simp only [Value.slice.injEq, Option.some.injEq, Addr.mk.injEq, and_true, true_and] at e
  obtain ⟨rfl, rfl⟩ := e
  refine .inr ⟨g, c, cur.setIfInBounds o v, rfl, hb, set_blk hh o v, hc, hm, by rw [Array.size_setIfInBounds]; exact hs, ?_⟩
  rw [← ht, Array.toList_setIfInBounds, List.take_set]
theorem flat7_set (cs : Nat → List Value) (i o : Nat) (v : Value) (n : Nat) (h : ∀ j, j < n → (cs j).length = 7) (hi : i < n) (ho : o < 7) : flat7 (fun j => if j = i then (cs i).set o v else cs j) n = (flat7 cs n).set (i * 7 + o) v := by
 apply List.ext_getElem?
 intro q
 have hl : ∀ j, j < n → ((fun j => if j = i then (cs i).set o v else cs j) j).length = 7 := fun j hj => by
  show (if j = i then (cs i).set o v else cs j).length = 7
  split
  ·rw [List.length_set]; exact h i hi
  ·exact h j hj
 have l1 := flat7_length _ n hl
 have l2 := flat7_length cs n h
 rcases Nat.lt_or_ge q (n * 7) with hq | hq
 ·obtain ⟨a, b, rfl, ha, hb⟩ : ∃ a b, q = a * 7 + b ∧ a < n ∧ b < 7 := ⟨q / 7, q % 7, by omega, by omega, by omega⟩
  rw [flat7_at _ n hl a ha b hb, List.getElem?_set]
  by_cases e : a = i
  ·subst e
   rw [if_pos rfl, List.getElem?_set]
   by_cases e2 : o = b
   ·subst e2
    rw [if_pos rfl, if_pos rfl, l2, h a ha, if_pos (by omega), if_pos (by omega)]
   ·rw [if_neg e2, if_neg (by omega), flat7_at cs n h a ha b hb]
  ·rw [if_neg e, if_neg (by omega), flat7_at cs n h a ha b hb]
 ·rw [List.getElem?_eq_none (by omega), List.getElem?_eq_none (by rw [List.length_set]; omega)]
theorem own_block {W : World} {base g n c t z : Nat} {xs : List Value} (h : W.ownsRow base t z (.slice (some ⟨g, 0, none⟩) n c) n xs) : ∃ cur : Array Value, W.heap[g]? = some (.cells cur t (0, 0)) ∧ base ≤ g ∧ cur.toList.take (n * z) = xs ∧ cur.size = c * z ∧ n ≤ c := by
 rcases h.2 with ⟨e, _⟩ | ⟨g', cap, cur, e, hb, hh, hc, hm, hs, ht⟩
 ·cases e
 ·simp only [Value.slice.injEq, Option.some.injEq, Addr.mk.injEq, and_true, true_and] at e
  obtain ⟨rfl, rfl⟩ := e
  exact ⟨cur, hh, hb, ht, hs, hc⟩
/-- a token in memory; what a write to it does -/
theorem ToksAt.at_ {W : World} {base : Nat} {V : Value} {out : List Tok} (h : ToksAt W base V out) {i : Nat} {t : Tok} (ht : out[i]? = some t) :
  ∃ (gV c : Nat) (A : Option Addr) (cr : Nat), V = .slice (some ⟨gV, 0, none⟩) out.length c ∧ out.length ≤ c ∧ base ≤ gV ∧ gV < W.heap.size ∧ (∀ o, W.frozen? ⟨gV, o, none⟩ = false) ∧ (∀ j u, (tokV t (.slice A t.r.length cr))[j]? = some u → W.cell? ⟨gV, i * 7 + j, none⟩ = some u) ∧ t.r.length ≤ cr ∧ t.r.length < 8796093022208 ∧
   (∀ k x, t.r[k]? = some x → ∃ g, A = some ⟨g, 0, none⟩ ∧ base ≤ g ∧ g < W.heap.size ∧ g ≠ gV ∧ (∀ o, W.frozen? ⟨g, o, none⟩ = false) ∧ W.cell? ⟨g, k * 2, none⟩ = some (.int .i64 x.f0) ∧ W.cell? ⟨g, k * 2 + 1, none⟩ = some (.int .i64 x.f1) ∧
    ∀ a b : Int, -9223372036854775808 ≤ a → a ≤ 9223372036854775807 → -9223372036854775808 ≤ b → b ≤ 9223372036854775807 → ToksAt ((W.setCell ⟨g, k * 2, none⟩ (.int .i64 a)).setCell ⟨g, k * 2 + 1, none⟩ (.int .i64 b)) base V (out.set i { t with r := t.r.set k ⟨a, b⟩ })) ∧
   ∀ q : Int, ToksAt (W.setCell ⟨gV, i * 7, none⟩ (.int .i64 q)) base V (out.set i { t with kind := q }) := by
 obtain ⟨cs, rv, h1, h2, h3⟩ := h
 have hi := (List.getElem?_eq_some_iff.1 ht).1
 obtain ⟨e0, ⟨o1, o2, o3, o4⟩, hd⟩ := h3 i t ht
 obtain ⟨A, cr, er, hcr⟩ := own_form o1
 obtain ⟨AV, c, eV, hcV⟩ := own_form h2
 have hget : ∀ (t' : Tok) j u, (out.set i t')[j]? = some u → (j = i ∧ u = t') ∨ (j ≠ i ∧ out[j]? = some u) := fun t' j u hj => by
  rw [List.getElem?_set] at hj
  by_cases e : i = j
  ·subst e
   rw [if_pos rfl, if_pos hi] at hj
   exact .inl ⟨rfl, (Option.some.inj hj).symm⟩
  ·rw [if_neg e] at hj; exact .inr ⟨fun e' => e e'.symm, hj⟩
 obtain ⟨gV, rfl⟩ : ∃ gV, AV = some ⟨gV, 0, none⟩ := by
  rcases h2.2 with ⟨e, hz⟩ | ⟨g, cap, cur, e, _⟩
  ·omega
  ·rw [e] at eV; simp only [Value.slice.injEq] at eV; exact ⟨g, eV.1.symm⟩
 subst eV
 obtain ⟨cur, hh, hb, htk, hcs, _⟩ := own_block h2
 have hgl := (Array.getElem?_eq_some_iff.1 hh).1
 refine ⟨gV, c, A, cr, rfl, hcV, hb, hgl, fun o => by simp [World.frozen?, hh], fun j u hu => ?_, hcr, o3, fun k x hx => ?_, fun q => ?_⟩
 ·have hj : j < 7 := by have := (List.getElem?_eq_some_iff.1 hu).1; simpa [tokV] using this
  have h4 := flat7_at cs out.length h1 i hi j hj
  rw [e0, er, hu, ← htk, List.getElem?_take] at h4
  split at h4
  ·exact lk_cell hh (by simpa using h4)
  ·cases h4
 ·have hk := (List.getElem?_eq_some_iff.1 hx).1
  obtain ⟨g, rfl⟩ : ∃ g, A = some ⟨g, 0, none⟩ := by
   rcases o1.2 with ⟨e, hz⟩ | ⟨g, cap, cur, e, _⟩
   ·omega
   ·rw [e] at er; simp only [Value.slice.injEq] at er; exact ⟨g, er.1.symm⟩
  rw [er] at o1 o4 hd
  obtain ⟨cur2, hh2, hb2, htk2, hcs2, hc2⟩ := own_block o1
  have hgl2 := (Array.getElem?_eq_some_iff.1 hh2).1
  have hne : g ≠ gV := fun e => o4 g rfl (by rw [e]; rfl)
  have hra := rowOf_at t.r k x hx
  have hcell : ∀ o u, o < t.r.length * 2 → (rowOf t.r)[o]? = some u → W.cell? ⟨g, o, none⟩ = some u := fun o u ho hu => by
   rw [← htk2, List.getElem?_take, if_pos ho] at hu
   exact lk_cell hh2 (by simpa using hu)
  refine ⟨g, rfl, hb2, hgl2, hne, fun o => by simp [World.frozen?, hh2], hcell _ _ (by omega) hra.1, hcell _ _ (by omega) hra.2, fun a b a1 a2 b1 b2 => ?_⟩
  have hmv : ∀ B, B ≠ g → ((W.setCell ⟨g, k * 2, none⟩ (.int .i64 a)).setCell ⟨g, k * 2 + 1, none⟩ (.int .i64 b)).heap[B]? = W.heap[B]? := fun B hB => (Below.heap_setCell _ ⟨g, k * 2 + 1, none⟩ _ B hB).trans (Below.heap_setCell _ ⟨g, k * 2, none⟩ _ B hB)
  have hown2 : ((W.setCell ⟨g, k * 2, none⟩ (.int .i64 a)).setCell ⟨g, k * 2 + 1, none⟩ (.int .i64 b)).ownsRow base 39 2 (.slice (some ⟨g, 0, none⟩) t.r.length cr) t.r.length (rowOf (t.r.set k ⟨a, b⟩)) := by
   rw [rowOf_set t.r k ⟨a, b⟩ hk]
   exact own_set (own_set o1 (k * 2) (.int .i64 a)) (k * 2 + 1) (.int .i64 b)
  refine ⟨cs, rv, fun j hj => h1 j (by simpa using hj), ?_, fun j u hj => ?_⟩
  ·rw [List.length_set]
   exact ownMove h2 (fun B hB => hmv B (fun e => by cases hB; exact hne e.symm))
  ·rcases hget _ j u hj with ⟨rfl, rfl⟩ | ⟨hji, hj⟩
   ·refine ⟨e0, ⟨?_, ?_, by simpa using o3, by rw [er]; exact o4⟩, by rw [er]; exact hd⟩
    ·rw [er]
     simpa using hown2
    ·unfold inR at o2 ⊢
     rw [List.all_eq_true] at o2 ⊢
     intro y hy
     rcases List.mem_or_eq_of_mem_set hy with hy | rfl
     ·exact o2 y hy
     ·simp only [Bool.and_eq_true, decide_eq_true_eq]; exact ⟨⟨⟨a1, a2⟩, b1⟩, b2⟩
   ·obtain ⟨f0, ⟨p1, p2, p3, p4⟩, fd⟩ := h3 j u hj
    refine ⟨f0, ⟨ownMove p1 (fun B hB => hmv B (fun e => ?_)), p2, p3, p4⟩, fd⟩
    subst e
    rcases Nat.lt_or_ge j i with hlt | hge
    ·exact hd j hlt B rfl hB
    ·exact fd i (by omega) B hB (by rw [er]; rfl)
 ·have hmv : ∀ B, B ≠ gV → (W.setCell ⟨gV, i * 7, none⟩ (.int .i64 q)).heap[B]? = W.heap[B]? := fun B hB => Below.heap_setCell _ ⟨gV, i * 7, none⟩ _ B hB
  refine ⟨fun j => if j = i then (cs i).set 0 (.int .i64 q) else cs j, rv, fun j hj => ?_, ?_, fun j u hj => ?_⟩
  ·rw [List.length_set] at hj
   simp only; split
   ·rw [List.length_set]; exact h1 i hi
   ·exact h1 j hj
  ·rw [List.length_set, flat7_set cs i 0 (.int .i64 q) out.length h1 hi (by decide)]
   exact own_set h2 (i * 7) (.int .i64 q)
  ·rcases hget _ j u hj with ⟨rfl, rfl⟩ | ⟨hji, hj⟩
   ·refine ⟨?_, ⟨ownMove o1 (fun B hB => hmv B (fun e => o4 B hB (by rw [e]; rfl))), o2, o3, o4⟩, hd⟩
    simp only [if_pos]
    rw [e0]
    rfl
   ·obtain ⟨f0, ⟨p1, p2, p3, p4⟩, fd⟩ := h3 j u hj
    refine ⟨?_, ⟨ownMove p1 (fun B hB => hmv B (fun e => p4 B hB (by rw [e]; rfl))), p2, p3, p4⟩, fd⟩
    simp only [if_neg hji]
    exact f0
end Go.Proofs.YtamhkdlcoghdbaaGreatDoor.PCls
