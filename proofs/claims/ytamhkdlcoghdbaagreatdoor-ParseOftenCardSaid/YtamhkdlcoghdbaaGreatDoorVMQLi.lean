/- Put together (wip/tools/pack.py): QLi, QLs. -/
import Derived.Test.YtamhkdlcoghdbaaGreatDoorVMQLo
/- Out of Li (wip/tools/prune2.py): the declarations alone that the texts of the trees name. -/
namespace Go.Proofs.YtamhkdlcoghdbaaGreatDoor.PCls
open Go.RowKit Go.Shelf Go.Proofs.YtamhkdlcoghdbaaGreatDoorW.PrintWords Go.Proofs.YtamhkdlcoghdbaaGreatDoorW.PrintLast Go.Proofs.YtamhkdlcoghdbaaGreatDoorW.PrintMore
set_option linter.unusedVariables false
set_option linter.unusedSimpArgs false
def itemC (s : ByteArray) (x0 p : Nat) (any : Bool) (hm : Bool) (c : Int × Nat) : Except Er It :=
 if c.2 = 0 then .error (33, x0)
 else if c.1 < 0 then .error (20, p)
 else if c.1 = 45 ∧ any = false ∧ hm = false then (if p + 1 = s.size then .error (33, x0) else .error (34, p))
 else .ok ⟨true, c.1, [⟨c.1, c.1⟩], p, (p + c.2 : Nat)⟩
theorem item_eq (C : CL) (s : ByteArray) (chars : Bool) (x0 p : Nat) (any : Bool) : Lx.item C s chars x0 p any = if Lx.here s p [91, 58] = true then Lx.named C s chars x0 p 58 else if Lx.here s p [91, 61] = true then Lx.named C s chars x0 p 61 else if Lx.here s p [91, 46] = true then Lx.named C s chars x0 p 46 else itemC s x0 p any (Lx.here s p [45, 93]) (Lx.unit s chars p) := rfl
theorem named_calls (W : World) (B p q : Nat) (s : ByteArray) (chars fold : Bool) (V : Value) (m : Int) (h : Sc W B s chars fold q V) (hs : s.size ≤ 2000) (hp : p + 2 ≤ s.size) (hm : W.cell? ⟨2, 0, none⟩ = some (.int .i64 m)) (h2 : 2 < W.heap.size) (hT : Lib.Utf8Tabs 0 1 W) (sign : UInt8) (hsg : sign = 58 ∨ sign = 61 ∨ sign = 46) :
  Calls Tryz.prog 192 #[.pointer (some ⟨B, 0, none⟩), .int .i64 p, .string ⟨#[sign]⟩] W fun e w' => Tells W w' e (Lx.named clC s chars q p sign) (ItAt W w' e) := by
 rcases hsg with rfl | hsg
 ·exact named58_calls W B p q s chars fold V m h hs hp hm h2
 ·exact namedEl_calls W B p q s chars fold V m h hs hp hm h2 hT sign hsg
set_option maxHeartbeats 2000000 in
set_option maxRecDepth 100000 in
theorem item_calls (W : World) (B p q : Nat) (s : ByteArray) (chars fold any : Bool) (V : Value) (m : Int) (h : Sc W B s chars fold q V) (hs : s.size ≤ 2000) (hp : p ≤ 4000) (hm : W.cell? ⟨2, 0, none⟩ = some (.int .i64 m)) (h2 : 2 < W.heap.size) (hT : Lib.Utf8Tabs 0 1 W) :
  Calls Tryz.prog 147 #[.pointer (some ⟨B, 0, none⟩), .int .i64 p, .bool any] W fun e w' => Tells W w' e (Lx.item clC s chars q p any) (ItAt W w' e) := by
 have HE := Lib.hid (item_eq clC s chars q p any)
 go_enter Tryz.func147, Tryz.ntmps147
 go_wp2_with fail
 generalize hW2 : (W.alloc (.cells #[.bool false, .int .i64 0, .slice none 0 0, .int .i64 0, .int .i64 0] 189)).alloc (.cells #[.string ⟨#[58]⟩, .string ⟨#[61]⟩, .string ⟨#[46]⟩] 9) = W2
 have hb1 := (Below.refl W.heap.size W).alloc (Nat.le_refl _) (.cells #[.bool false, .int .i64 0, .slice none 0 0, .int .i64 0, .int .i64 0] 189)
 have hb2 := hb1.alloc hb1.size (.cells #[.string ⟨#[58]⟩, .string ⟨#[61]⟩, .string ⟨#[46]⟩] 9)
 have hg : W2.heap[W.heap.size]? = some (.cells #[.bool false, .int .i64 0, .slice none 0 0, .int .i64 0, .int .i64 0] 189 (0, 0)) := by rw [← hW2]; exact heap_alloc2_old _ _ _
 have hg1 : W2.heap[W.heap.size + 1]? = some (.cells #[.string ⟨#[58]⟩, .string ⟨#[61]⟩, .string ⟨#[46]⟩] 9 (0, 0)) := by rw [← hW2]; exact heap_alloc2_new _ _ _
 rw [hW2] at hb2
 have hsc := h.below hb2
 have c0 := hsc.c0
 have c3 := hsc.c3
 have s0 := lk_cell (i := 0) hg1 rfl
 have s1 := lk_cell (i := 1) hg1 rfl
 have s2 := lk_cell (i := 2) hg1 rfl
 have HG := Lib.hid (And.intro hg hb2)
 have hm2 := (hb2.cell (p := ⟨2, 0, none⟩) h2).trans hm
 have HN := Lib.hid (fun sign hp hsg => named_calls W2 B p q s chars fold V m hsc hs hp hm2 (Nat.lt_of_lt_of_le h2 hb2.size) (tabs_below hT hb2) sign hsg)
 have HU := Lib.hid (unit_calls W2 B p q s chars fold V (tabs_below hT hb2) hsc (by omega) (by omega))
 have HC := Lib.hid (fun (w : World) (hb : Below W2.heap.size W2 w) => hsc.below hb)
 have HH := Lib.hid (fun t => here_calls W2 B p s t c0 (by omega))
 have HS := Lib.hid (fun t => here_le (s := s) (p := p) (t := t))
 have HUL := Lib.hid (unit_rng s chars p)
 have hi0 : (0 : Int) ≤ (p : Int) := by omega
 have hi1 : (p : Int) ≤ 4000 := by omega
 generalize hu : Lx.unit s chars p = u at HE HU HUL
 generalize h45 : Lx.here s p [45, 93] = b4 at HE
 generalize hB1 : Lx.here s p [91, 58] = b1 at HE
 generalize hB2 : Lx.here s p [91, 61] = b2 at HE
 generalize hB3 : Lx.here s p [91, 46] = b3 at HE
 have H45 := Lib.hid h45
 have HB1 := Lib.hid hB1
 have HB2 := Lib.hid hB2
 have HB3 := Lib.hid hB3
 clear hu h45 hB1 hB2 hB3 hW2 hb1 hb2 hg hg1 hsc h hm hm2 h2 hT
 go_loop [13] (fun a => a = .int .i64 0 ∨ (a = .int .i64 1 ∧ b1 = false) ∨ (a = .int .i64 2 ∧ b1 = false ∧ b2 = false) ∨ (a = .int .i64 3 ∧ b1 = false ∧ b2 = false ∧ b3 = false)) (fun a => 3 - (intOf a).toNat)
 case atStart => exact .inl rfl
 case round =>
  rcases hrel with rfl | ⟨rfl, hx1⟩ | ⟨rfl, hx1, hx2⟩ | ⟨rfl, hx1, hx2, hx3⟩
  ·go_wp2_with fail
   refine (HH.out ⟨#[91, 58]⟩).mono ?_
   rintro e w ⟨rfl, rfl⟩
   rw [show Lx.here s p (⟨#[91, 58]⟩ : ByteArray).data.toList = b1 from HB1.out]
   cases hb : b1 with
   | true =>
    have HX := Lib.hid (HE.out.trans (by rw [if_pos hb]))
    have hp2 := HS.out _ (HB1.out.trans hb)
    clear HE HU HUL
    go_wp2_with fail
    refine (HN.out 58 hp2 (by decide)).mono ?_
    rintro e w' ⟨hbw, ht⟩
    cases hr : Lx.named clC s chars q p 58 with
    | error y =>
     rw [hr] at ht
     obtain ⟨g, rfl, hg⟩ := ht
     exact ⟨rfl, Tells.err (HX.out.trans hr) (Below.up HG.out.2 hbw) (Bad.up ⟨g, rfl, hg⟩ HG.out.2)⟩
    | ok i =>
     rw [hr] at ht
     obtain ⟨v, rfl, hrow⟩ := ht
     obtain ⟨A, n, rfl⟩ := hrow.form
     have hgz := HG.out.1
     have hgw := (hbw.block _ (Array.getElem?_eq_some_iff.1 hgz).1).trans hgz
     have HY := Lib.hid (And.intro hgw (And.intro hrow (And.intro (Below.up HG.out.2 hbw) (HX.out.trans hr))))
     have hf : ∀ o, w'.frozen? ⟨W.heap.size, o, none⟩ = false := fun o => by simp only [World.frozen?, hgw]; simp
     have k0 := lk_cell (i := 0) hgw rfl
     have k1 := lk_cell (i := 1) hgw rfl
     have k2 := lk_cell (i := 2) hgw rfl
     have k3 := lk_cell (i := 3) hgw rfl
     have k4 := lk_cell (i := 4) hgw rfl
     clear hgw hgz hbw hrow HN HC HH HS HX hr hp2
     obtain ⟨ie, ic, il, ia, ix⟩ := i
     unfold itV
     go_wp2_with fail
     (try simp only [Exit.inBlock, Exit.then])
     have hgg := set5_blk (a := .bool ie) (b := .int .i64 ic) (c := .slice A il.length n) (d := .int .i64 ia) (e := .int .i64 ix) HY.out.1
     refine bodyPost_ret (results_cell_row rfl _ _ W.heap.size 189 #[.bool ie, .int .i64 ic, .slice A il.length n, .int .i64 ia, .int .i64 ix] (0, 0) _ rfl hgg Tryz.underlying189 rfl (by kernel_rfl)) rfl ?_
     have hbb := set5_below HY.out.2.2.1 (Nat.le_refl _) (.bool ie) (.int .i64 ic) (.slice A il.length n) (.int .i64 ia) (.int .i64 ix)
     have hrr := set5_row (HY.out.2.1.lower HG.out.2.size) (row_ge HY.out.2.1 (Array.getElem?_eq_some_iff.1 HG.out.1).1) (.bool ie) (.int .i64 ic) (.slice A il.length n) (.int .i64 ia) (.int .i64 ix)
     exact Tells.ok HY.out.2.2.2 hbb ⟨.slice A il.length n, rfl, hrr⟩
   | false =>
    clear HE HU HUL HN HC
    go_wp2_with fail
    go_round
    case rel => exact .inr (.inl ⟨by go_num, hb⟩)
    case measure => simp [intOf]
  ·go_wp2_with fail
   refine (HH.out ⟨#[91, 61]⟩).mono ?_
   rintro e w ⟨rfl, rfl⟩
   rw [show Lx.here s p (⟨#[91, 61]⟩ : ByteArray).data.toList = b2 from HB2.out]
   cases hb : b2 with
   | true =>
    have HX := Lib.hid (HE.out.trans (by rw [if_neg (by rw [hx1]; decide), if_pos hb]))
    have hp2 := HS.out _ (HB2.out.trans hb)
    clear HE HU HUL
    go_wp2_with fail
    refine (HN.out 61 hp2 (by decide)).mono ?_
    rintro e w' ⟨hbw, ht⟩
    cases hr : Lx.named clC s chars q p 61 with
    | error y =>
     rw [hr] at ht
     obtain ⟨g, rfl, hg⟩ := ht
     exact ⟨rfl, Tells.err (HX.out.trans hr) (Below.up HG.out.2 hbw) (Bad.up ⟨g, rfl, hg⟩ HG.out.2)⟩
    | ok i =>
     rw [hr] at ht
     obtain ⟨v, rfl, hrow⟩ := ht
     obtain ⟨A, n, rfl⟩ := hrow.form
     have hgz := HG.out.1
     have hgw := (hbw.block _ (Array.getElem?_eq_some_iff.1 hgz).1).trans hgz
     have HY := Lib.hid (And.intro hgw (And.intro hrow (And.intro (Below.up HG.out.2 hbw) (HX.out.trans hr))))
     have hf : ∀ o, w'.frozen? ⟨W.heap.size, o, none⟩ = false := fun o => by simp only [World.frozen?, hgw]; simp
     have k0 := lk_cell (i := 0) hgw rfl
     have k1 := lk_cell (i := 1) hgw rfl
     have k2 := lk_cell (i := 2) hgw rfl
     have k3 := lk_cell (i := 3) hgw rfl
     have k4 := lk_cell (i := 4) hgw rfl
     clear hgw hgz hbw hrow HN HC HH HS HX hr hp2
     obtain ⟨ie, ic, il, ia, ix⟩ := i
     unfold itV
     go_wp2_with fail
     (try simp only [Exit.inBlock, Exit.then])
     have hgg := set5_blk (a := .bool ie) (b := .int .i64 ic) (c := .slice A il.length n) (d := .int .i64 ia) (e := .int .i64 ix) HY.out.1
     refine bodyPost_ret (results_cell_row rfl _ _ W.heap.size 189 #[.bool ie, .int .i64 ic, .slice A il.length n, .int .i64 ia, .int .i64 ix] (0, 0) _ rfl hgg Tryz.underlying189 rfl (by kernel_rfl)) rfl ?_
     have hbb := set5_below HY.out.2.2.1 (Nat.le_refl _) (.bool ie) (.int .i64 ic) (.slice A il.length n) (.int .i64 ia) (.int .i64 ix)
     have hrr := set5_row (HY.out.2.1.lower HG.out.2.size) (row_ge HY.out.2.1 (Array.getElem?_eq_some_iff.1 HG.out.1).1) (.bool ie) (.int .i64 ic) (.slice A il.length n) (.int .i64 ia) (.int .i64 ix)
     exact Tells.ok HY.out.2.2.2 hbb ⟨.slice A il.length n, rfl, hrr⟩
   | false =>
    clear HE HU HUL HN HC
    go_wp2_with fail
    go_round
    case rel => exact .inr (.inr (.inl ⟨by go_num, hx1, hb⟩))
    case measure => simp [intOf]
  ·go_wp2_with fail
   refine (HH.out ⟨#[91, 46]⟩).mono ?_
   rintro e w ⟨rfl, rfl⟩
   rw [show Lx.here s p (⟨#[91, 46]⟩ : ByteArray).data.toList = b3 from HB3.out]
   cases hb : b3 with
   | true =>
    have HX := Lib.hid (HE.out.trans (by rw [if_neg (by rw [hx1]; decide), if_neg (by rw [hx2]; decide), if_pos hb]))
    have hp2 := HS.out _ (HB3.out.trans hb)
    clear HE HU HUL
    go_wp2_with fail
    refine (HN.out 46 hp2 (by decide)).mono ?_
    rintro e w' ⟨hbw, ht⟩
    cases hr : Lx.named clC s chars q p 46 with
    | error y =>
     rw [hr] at ht
     obtain ⟨g, rfl, hg⟩ := ht
     exact ⟨rfl, Tells.err (HX.out.trans hr) (Below.up HG.out.2 hbw) (Bad.up ⟨g, rfl, hg⟩ HG.out.2)⟩
    | ok i =>
     rw [hr] at ht
     obtain ⟨v, rfl, hrow⟩ := ht
     obtain ⟨A, n, rfl⟩ := hrow.form
     have hgz := HG.out.1
     have hgw := (hbw.block _ (Array.getElem?_eq_some_iff.1 hgz).1).trans hgz
     have HY := Lib.hid (And.intro hgw (And.intro hrow (And.intro (Below.up HG.out.2 hbw) (HX.out.trans hr))))
     have hf : ∀ o, w'.frozen? ⟨W.heap.size, o, none⟩ = false := fun o => by simp only [World.frozen?, hgw]; simp
     have k0 := lk_cell (i := 0) hgw rfl
     have k1 := lk_cell (i := 1) hgw rfl
     have k2 := lk_cell (i := 2) hgw rfl
     have k3 := lk_cell (i := 3) hgw rfl
     have k4 := lk_cell (i := 4) hgw rfl
     clear hgw hgz hbw hrow HN HC HH HS HX hr hp2
     obtain ⟨ie, ic, il, ia, ix⟩ := i
     unfold itV
     go_wp2_with fail
     (try simp only [Exit.inBlock, Exit.then])
     have hgg := set5_blk (a := .bool ie) (b := .int .i64 ic) (c := .slice A il.length n) (d := .int .i64 ia) (e := .int .i64 ix) HY.out.1
     refine bodyPost_ret (results_cell_row rfl _ _ W.heap.size 189 #[.bool ie, .int .i64 ic, .slice A il.length n, .int .i64 ia, .int .i64 ix] (0, 0) _ rfl hgg Tryz.underlying189 rfl (by kernel_rfl)) rfl ?_
     have hbb := set5_below HY.out.2.2.1 (Nat.le_refl _) (.bool ie) (.int .i64 ic) (.slice A il.length n) (.int .i64 ia) (.int .i64 ix)
     have hrr := set5_row (HY.out.2.1.lower HG.out.2.size) (row_ge HY.out.2.1 (Array.getElem?_eq_some_iff.1 HG.out.1).1) (.bool ie) (.int .i64 ic) (.slice A il.length n) (.int .i64 ia) (.int .i64 ix)
     exact Tells.ok HY.out.2.2.2 hbb ⟨.slice A il.length n, rfl, hrr⟩
   | false =>
    clear HE HU HUL HN HC
    go_wp2_with fail
    go_round
    case rel => exact .inr (.inr (.inr ⟨by go_num, hx1, hx2, hb⟩))
    case measure => simp [intOf]
  ·have HX := Lib.hid (HE.out.trans (by rw [if_neg (by rw [hx1]; decide), if_neg (by rw [hx2]; decide), if_neg (by rw [hx3]; decide)]))
   clear HE HN hx1 hx2 hx3
   go_wp2_with fail
   refine HU.out.mono ?_
   rintro e w3 ⟨rfl, hb⟩
   obtain ⟨c, n⟩ := u
   have c7 := (HC.out w3 hb).c3
   have c8 := (HC.out w3 hb).c0
   have HB := Lib.hid (Below.up HG.out.2 hb)
   have hgz := HG.out.1
   have hgw := (hb.block _ (Array.getElem?_eq_some_iff.1 hgz).1).trans hgz
   have HL := Lib.hid HUL.out
   have hln : (n : Int) ≤ 2000 := by have := HUL.out; omega
   have HH3 := Lib.hid (here_calls w3 B p s ⟨#[45, 93]⟩ c8 (by omega))
   rw [show Lx.here s p (⟨#[45, 93]⟩ : ByteArray).data.toList = b4 from H45.out] at HH3
   clear HU HUL HC hb hgz HH c0 c3 s0 s1 s2
   by_cases hn : n = 0
   ·have HY := Lib.hid (HX.out.trans (if_pos hn))
    have hn' : ((n : Int) == 0) = true := by rw [beq_iff_eq]; omega
    clear HX
    go_wp2_with fail
    refine (fail_calls _ _ _).mono ?_
    rintro e w4 ⟨⟨g, rfl, hg'⟩, hb⟩
    exact ⟨rfl, Tells.err HY.out (Below.up HB.out hb) (Bad.up ⟨g, rfl, hg'⟩ HB.out)⟩
   have hn' : ((n : Int) == 0) = false := by rw [beq_eq_false_iff_ne]; omega
   by_cases hc : c < 0
   ·have HY := Lib.hid (HX.out.trans ((if_neg hn).trans (if_pos hc)))
    clear HX
    go_wp2_with fail
    refine (fail_calls _ _ _).mono ?_
    rintro e w4 ⟨⟨g, rfl, hg'⟩, hb⟩
    exact ⟨rfl, Tells.err HY.out (Below.up HB.out hb) (Bad.up ⟨g, rfl, hg'⟩ HB.out)⟩
   have HX2 := Lib.hid (HX.out.trans ((if_neg hn).trans (if_neg hc)))
   clear HX
   have hf : ∀ o, w3.frozen? ⟨W.heap.size, o, none⟩ = false := fun o => by simp only [World.frozen?, hgw]; simp
   have k0 := lk_cell (i := 0) hgw rfl
   have k1 := lk_cell (i := 1) hgw rfl
   have k2 := lk_cell (i := 2) hgw rfl
   have k3 := lk_cell (i := 3) hgw rfl
   have k4 := lk_cell (i := 4) hgw rfl
   have hsz : W.heap.size < w3.heap.size := (Array.getElem?_eq_some_iff.1 hgw).1
   have HW := Lib.hid hgw
   clear hgw
   by_cases h45 : c = 45
   ·cases any with
    | false =>
     cases b4 with
     | false =>
      by_cases hend : p + 1 = s.size
      ·have HY := Lib.hid (HX2.out.trans ((if_pos ⟨h45, rfl, rfl⟩).trans (if_pos hend)))
       have he : ((p : Int) + 1 == (s.size : Int)) = true := by rw [beq_iff_eq]; omega
       clear HX2 hend
       subst h45
       go_wp2_with fail
       refine HH3.out.mono ?_
       rintro e w ⟨rfl, hw⟩
       subst w
       go_wp2_with fail
       refine (fail_calls _ _ _).mono ?_
       rintro e w4 ⟨⟨g, rfl, hg'⟩, hb⟩
       exact ⟨rfl, Tells.err HY.out (Below.up HB.out hb) (Bad.up ⟨g, rfl, hg'⟩ HB.out)⟩
      ·have HY := Lib.hid (HX2.out.trans ((if_pos ⟨h45, rfl, rfl⟩).trans (if_neg hend)))
       have he : ((p : Int) + 1 == (s.size : Int)) = false := by rw [beq_eq_false_iff_ne]; omega
       clear HX2 hend
       subst h45
       go_wp2_with fail
       refine HH3.out.mono ?_
       rintro e w ⟨rfl, hw⟩
       subst w
       go_wp2_with fail
       refine (fail_calls _ _ _).mono ?_
       rintro e w4 ⟨⟨g, rfl, hg'⟩, hb⟩
       exact ⟨rfl, Tells.err HY.out (Below.up HB.out hb) (Bad.up ⟨g, rfl, hg'⟩ HB.out)⟩
     | true =>
      have HY := Lib.hid (HX2.out.trans (if_neg (by intro h; exact absurd h.2.2 (by decide))))
      clear HX2
      subst h45
      go_wp2_with fail
      refine HH3.out.mono ?_
      rintro e w ⟨rfl, hw⟩
      subst w
      go_wp2_with fail
      (try simp only [Exit.inBlock, Exit.then])
      have hgg := set5_one_blk (a := .bool true) (b := .int .i64 45) (c := .slice (some ⟨w3.heap.size, 0, none⟩) 1 1) (d := .int .i64 p) (e := .int .i64 ((p : Int) + (n : Int))) HW.out 45
      refine bodyPost_ret (results_cell_row rfl _ _ W.heap.size 189 #[.bool true, .int .i64 45, .slice (some ⟨w3.heap.size, 0, none⟩) 1 1, .int .i64 p, .int .i64 ((p : Int) + (n : Int))] (0, 0) _ rfl hgg Tryz.underlying189 rfl (by kernel_rfl)) rfl ?_
      have hbb := set5_one_below HB.out (Nat.le_refl _) 45 (.bool true) (.int .i64 45) (.slice (some ⟨w3.heap.size, 0, none⟩) 1 1) (.int .i64 p) (.int .i64 ((p : Int) + (n : Int))) HB.out.size
      have hrr := (set5_one_row (w := w3) W.heap.size 45 (by have := HL.out; omega) (.bool true) (.int .i64 45) (.slice (some ⟨w3.heap.size, 0, none⟩) 1 1) (.int .i64 p) (.int .i64 ((p : Int) + (n : Int)))).lower HB.out.size
      refine Tells.ok HY.out hbb ⟨.slice (some ⟨w3.heap.size, 0, none⟩) 1 1, ?_, hrr⟩
      rfl
    | true =>
     have HY := Lib.hid (HX2.out.trans (if_neg (by intro h; exact absurd h.2.1 (by decide))))
     clear HX2
     subst h45
     go_wp2_with fail
     (try simp only [Exit.inBlock, Exit.then])
     have hgg := set5_one_blk (a := .bool true) (b := .int .i64 45) (c := .slice (some ⟨w3.heap.size, 0, none⟩) 1 1) (d := .int .i64 p) (e := .int .i64 ((p : Int) + (n : Int))) HW.out 45
     refine bodyPost_ret (results_cell_row rfl _ _ W.heap.size 189 #[.bool true, .int .i64 45, .slice (some ⟨w3.heap.size, 0, none⟩) 1 1, .int .i64 p, .int .i64 ((p : Int) + (n : Int))] (0, 0) _ rfl hgg Tryz.underlying189 rfl (by kernel_rfl)) rfl ?_
     have hbb := set5_one_below HB.out (Nat.le_refl _) 45 (.bool true) (.int .i64 45) (.slice (some ⟨w3.heap.size, 0, none⟩) 1 1) (.int .i64 p) (.int .i64 ((p : Int) + (n : Int))) HB.out.size
     have hrr := (set5_one_row (w := w3) W.heap.size 45 (by have := HL.out; omega) (.bool true) (.int .i64 45) (.slice (some ⟨w3.heap.size, 0, none⟩) 1 1) (.int .i64 p) (.int .i64 ((p : Int) + (n : Int)))).lower HB.out.size
     refine Tells.ok HY.out hbb ⟨.slice (some ⟨w3.heap.size, 0, none⟩) 1 1, ?_, hrr⟩
     rfl
   ·have HY := Lib.hid (HX2.out.trans (if_neg (fun h => h45 h.1)))
    have h45' : (c == 45) = false := by rw [beq_eq_false_iff_ne]; exact h45
    clear HX2
    go_wp2_with fail
    (try simp only [Exit.inBlock, Exit.then])
    have hgg := set5_one_blk (a := .bool true) (b := .int .i64 c) (c := .slice (some ⟨w3.heap.size, 0, none⟩) 1 1) (d := .int .i64 p) (e := .int .i64 ((p : Int) + (n : Int))) HW.out c
    refine bodyPost_ret (results_cell_row rfl _ _ W.heap.size 189 #[.bool true, .int .i64 c, .slice (some ⟨w3.heap.size, 0, none⟩) 1 1, .int .i64 p, .int .i64 ((p : Int) + (n : Int))] (0, 0) _ rfl hgg Tryz.underlying189 rfl (by kernel_rfl)) rfl ?_
    have hbb := set5_one_below HB.out (Nat.le_refl _) c (.bool true) (.int .i64 c) (.slice (some ⟨w3.heap.size, 0, none⟩) 1 1) (.int .i64 p) (.int .i64 ((p : Int) + (n : Int))) HB.out.size
    have hrr := (set5_one_row (w := w3) W.heap.size c (by have := HL.out; omega) (.bool true) (.int .i64 c) (.slice (some ⟨w3.heap.size, 0, none⟩) 1 1) (.int .i64 p) (.int .i64 ((p : Int) + (n : Int)))).lower HB.out.size
    refine Tells.ok HY.out hbb ⟨.slice (some ⟨w3.heap.size, 0, none⟩) 1 1, ?_, hrr⟩
    rfl
end Go.Proofs.YtamhkdlcoghdbaaGreatDoor.PCls
/- Out of Ls (wip/tools/prune2.py): the declarations alone that the texts of the trees name. -/
namespace Go.Proofs.YtamhkdlcoghdbaaGreatDoor.PCls
open Go.RowKit Go.Shelf Go.Proofs.YtamhkdlcoghdbaaGreatDoorW.PrintWords Go.Proofs.YtamhkdlcoghdbaaGreatDoorW.PrintLast Go.Proofs.YtamhkdlcoghdbaaGreatDoorW.PrintMore
set_option linter.unusedVariables false
set_option linter.unusedSimpArgs false
/-- bounds of an item -/
structure ItOk (s : ByteArray) (p : Nat) (i : It) : Prop where
 c0 : -1 ≤ i.c
 c1 : i.c ≤ 1114111
 n : ∃ x : Nat, i.nx = x ∧ p < x ∧ x ≤ s.size + 2
 l : i.l.length ≤ 10
theorem named_ok {s : ByteArray} {chars : Bool} {x0 p : Nat} {sign : UInt8} {i : It} (h : Lx.named clC s chars x0 p sign = .ok i) (hp : p + 2 ≤ s.size) : ItOk s p i := by
 by_cases h58 : sign = 58
 ·subst h58
  rw [named58_eq clC s chars x0 p hp] at h
  have h1 := Lib.index_le (s.data.toList.drop (p + 2)) [58, 93]
  rw [List.length_drop, show s.data.toList.length = s.size by simp] at h1
  split at h
  ·cases h
  ·split at h
   ·cases h
    exact ⟨by simp, by simp, ⟨_, rfl, by omega, by omega⟩, (named_good _).2⟩
   ·cases h
 ·rw [named_el_eq clC s chars x0 p sign h58] at h
  have h2 := unit_rng s chars (p + 2)
  have h1 := Lib.index_le (s.data.toList.drop (p + 3)) [sign, 93]
  rw [List.length_drop, show s.data.toList.length = s.size by simp] at h1
  split at h
  ·cases h
  rename_i hk
  have h3 : p + 3 ≤ s.size := by
   rcases Nat.lt_or_ge s.size (p + 3) with h | h
   ·exact absurd (show elk s p sign < 0 by unfold elk; rw [if_neg (by omega)]; decide) hk
   ·exact h
  have h4 : elk s p sign = Lib.index (s.data.toList.drop (p + 3)) [sign, 93] := by unfold elk; rw [if_pos h3]
  split at h
  ·cases h
  ·cases h
   exact ⟨by simp only; omega, by simp only; omega, ⟨_, rfl, by omega, by rw [h4] at *; omega⟩, by simp⟩
theorem item_ok {s : ByteArray} {chars : Bool} {x0 p : Nat} {any : Bool} {i : It} (h : Lx.item clC s chars x0 p any = .ok i) : ItOk s p i := by
 rw [item_eq] at h
 split at h
 ·rename_i h1; exact named_ok h (here_le h1)
 split at h
 ·rename_i h1; exact named_ok h (here_le h1)
 split at h
 ·rename_i h1; exact named_ok h (here_le h1)
 unfold itemC at h
 have h2 := unit_rng s chars p
 by_cases hp : p < s.size
 ·have h3 := unit_lim s chars p hp
  split at h
  ·cases h
  split at h
  ·cases h
  split at h
  ·split at h <;> cases h
  ·cases h
   exact ⟨by simp only; omega, by simp only; omega, ⟨_, rfl, by omega, by omega⟩, by simp⟩
 ·rw [unit_none s chars p hp, if_pos rfl] at h
  cases h
theorem span_eq (s : ByteArray) (chars : Bool) (x0 : Nat) (a : It) (p : Nat) : Lx.span clC s chars x0 a p = if Lx.here s p [91, 58] = true then .error (34, a.sat) else if Lx.here s p [91, 61] = true then .error (34, a.sat) else match Lx.item clC s chars x0 p true with
  | .error e => .error e
  | .ok b => if b.c < a.c then .error (34, a.sat) else .ok { b with l := [⟨a.c, b.c⟩] } := by
 unfold Lx.span
 by_cases h1 : Lx.here s p [91, 58] = true
 ·rw [if_pos (.inl h1), if_pos h1]
 ·by_cases h2 : Lx.here s p [91, 61] = true
  ·rw [if_pos (.inr h2), if_neg h1, if_pos h2]
  ·rw [if_neg (by intro h; rcases h with h | h; exact h1 h; exact h2 h), if_neg h1, if_neg h2]
   rfl
theorem Row.two (W : World) (a b : Int) (ha : -9223372036854775808 ≤ a ∧ a ≤ 9223372036854775807) (hb : -9223372036854775808 ≤ b ∧ b ≤ 9223372036854775807) : Row (W.alloc (.cells #[.int .i64 a, .int .i64 b] 39)) W.heap.size (.slice (some ⟨W.heap.size, 0, none⟩) 1 1) [⟨a, b⟩] :=
 ⟨⟨rfl, .inr ⟨W.heap.size, 1, _, rfl, Nat.le_refl _, heap_alloc_new W _, Nat.le_refl _, by decide, rfl, rfl⟩⟩, by simp [inR, ha, hb], by simp⟩
set_option maxHeartbeats 2000000 in
set_option maxRecDepth 100000 in
theorem span_calls (W : World) (B p q : Nat) (s : ByteArray) (chars fold : Bool) (V : Value) (m : Int) (h : Sc W B s chars fold q V) (hs : s.size ≤ 2000) (hp : p ≤ 4000) (hm : W.cell? ⟨2, 0, none⟩ = some (.int .i64 m)) (h2 : 2 < W.heap.size) (hT : Lib.Utf8Tabs 0 1 W)
  (a : It) (A : Option Addr) (n k : Nat) (ha : -1 ≤ a.c ∧ a.c ≤ 1114111) :
  Calls Tryz.prog 148 #[.pointer (some ⟨B, 0, none⟩), itV a (.slice A n k), .int .i64 p] W fun e w' => Tells W w' e (Lx.span clC s chars q a p) (ItAt W w' e) := by
 have HE := Lib.hid (span_eq s chars q a p)
 obtain ⟨ae, ac, al, aa, ax⟩ := a
 unfold itV
 simp only at ha HE ⊢
 have hb1 := (Below.refl W.heap.size W).alloc (Nat.le_refl _) (.cells #[.bool ae, .int .i64 ac, .slice A n k, .int .i64 aa, .int .i64 ax] 189)
 have hb2 := hb1.alloc hb1.size (.cells #[.bool false, .int .i64 0, .slice none 0 0, .int .i64 0, .int .i64 0] 189)
 go_enter Tryz.func148, Tryz.ntmps148
 go_wp2_with fail
 generalize hW2 : (W.alloc (.cells #[.bool ae, .int .i64 ac, .slice A n k, .int .i64 aa, .int .i64 ax] 189)).alloc (.cells #[.bool false, .int .i64 0, .slice none 0 0, .int .i64 0, .int .i64 0] 189) = W2
 have hg : W2.heap[W.heap.size]? = some (.cells #[.bool ae, .int .i64 ac, .slice A n k, .int .i64 aa, .int .i64 ax] 189 (0, 0)) := by rw [← hW2]; exact heap_alloc2_old _ _ _
 have hg1 : W2.heap[W.heap.size + 1]? = some (.cells #[.bool false, .int .i64 0, .slice none 0 0, .int .i64 0, .int .i64 0] 189 (0, 0)) := by rw [← hW2]; exact heap_alloc2_new _ _ _
 rw [hW2] at hb2
 have hsc := h.below hb2
 have c0 := hsc.c0
 have HG := Lib.hid (And.intro hg (And.intro hg1 hb2))
 have hm2 := (hb2.cell (p := ⟨2, 0, none⟩) h2).trans hm
 have HI := Lib.hid (item_calls W2 B p q s chars fold true V m hsc hs hp hm2 (Nat.lt_of_lt_of_le h2 hb2.size) (tabs_below hT hb2))
 have HH := Lib.hid (fun t => here_calls W2 B p s t c0 (by omega))
 have HOK := Lib.hid (fun i => item_ok (s := s) (chars := chars) (x0 := q) (p := p) (any := true) (i := i))
 have g0 := lk_cell (i := 0) hg rfl
 have g1 := lk_cell (i := 1) hg rfl
 have g2 := lk_cell (i := 2) hg rfl
 have g3 := lk_cell (i := 3) hg rfl
 have g4 := lk_cell (i := 4) hg rfl
 generalize hB1 : Lx.here s p [91, 58] = b1 at HE
 generalize hB2 : Lx.here s p [91, 61] = b2 at HE
 have HB1 := Lib.hid hB1
 have HB2 := Lib.hid hB2
 have HA := Lib.hid ha
 clear hB1 hB2 hW2 hb1 hb2 hg hg1 hsc h hm hm2 h2 hT ha
 refine (HH.out ⟨#[91, 58]⟩).mono ?_
 rintro e w ⟨rfl, hw⟩
 subst w
 rw [show Lx.here s p (⟨#[91, 58]⟩ : ByteArray).data.toList = b1 from HB1.out]
 cases b1 with
 | true =>
  have HX := Lib.hid (HE.out.trans (if_pos rfl))
  clear HE
  go_wp2_with fail
  refine (fail_calls _ _ _).mono ?_
  rintro e w4 ⟨⟨g, rfl, hg'⟩, hb⟩
  exact ⟨rfl, Tells.err HX.out (Below.up HG.out.2.2 hb) (Bad.up ⟨g, rfl, hg'⟩ HG.out.2.2)⟩
 | false =>
  go_wp2_with fail
  refine (HH.out ⟨#[91, 61]⟩).mono ?_
  rintro e w ⟨rfl, hw⟩
  subst w
  rw [show Lx.here s p (⟨#[91, 61]⟩ : ByteArray).data.toList = b2 from HB2.out]
  cases b2 with
  | true =>
   have HX := Lib.hid (HE.out.trans ((if_neg (by decide)).trans (if_pos rfl)))
   clear HE
   go_wp2_with fail
   refine (fail_calls _ _ _).mono ?_
   rintro e w4 ⟨⟨g, rfl, hg'⟩, hb⟩
   exact ⟨rfl, Tells.err HX.out (Below.up HG.out.2.2 hb) (Bad.up ⟨g, rfl, hg'⟩ HG.out.2.2)⟩
  | false =>
   have HX := Lib.hid (HE.out.trans ((if_neg (by decide)).trans (if_neg (by decide))))
   clear HE HH
   go_wp2_with fail
   refine HI.out.mono ?_
   rintro e w3 ⟨hb, ht⟩
   cases hr : Lx.item clC s chars q p true with
   | error y =>
    rw [hr] at ht HX
    obtain ⟨g, rfl, hg⟩ := ht
    exact ⟨rfl, Tells.err HX.out (Below.up HG.out.2.2 hb) (Bad.up ⟨g, rfl, hg⟩ HG.out.2.2)⟩
   | ok i =>
    rw [hr] at ht HX
    obtain ⟨v, rfl, hrow⟩ := ht
    obtain ⟨A', n', rfl⟩ := hrow.form
    have hgz := HG.out.1
    have hgw := (hb.block _ (Array.getElem?_eq_some_iff.1 hgz).1).trans hgz
    have hgz1 := HG.out.2.1
    have hgw1 := (hb.block _ (Array.getElem?_eq_some_iff.1 hgz1).1).trans hgz1
    have g5 := lk_cell (i := 1) hgw rfl
    have g6 := lk_cell (i := 3) hgw rfl
    have hsz := (Array.getElem?_eq_some_iff.1 hgw1).1
    have hsz0 : W.heap.size < w3.heap.size := by omega
    have hf : ∀ o, w3.frozen? ⟨W.heap.size + 1, o, none⟩ = false := fun o => by simp only [World.frozen?, hgw1]; simp
    have k0 := lk_cell (i := 0) hgw1 rfl
    have k1 := lk_cell (i := 1) hgw1 rfl
    have k2 := lk_cell (i := 2) hgw1 rfl
    have k3 := lk_cell (i := 3) hgw1 rfl
    have k4 := lk_cell (i := 4) hgw1 rfl
    have HB := Lib.hid (Below.up HG.out.2.2 hb)
    have HL := Lib.hid (And.intro (HOK.out i hr) (And.intro HA.out hgw1))
    obtain ⟨ie, ic, il, ia, ix⟩ := i
    unfold itV
    simp only at HX HL hrow
    clear HI hb hgz hgw hgz1 hgw1 hrow hr HOK HA HB1 HB2 c0 g0 g1 g2 g3 g4
    by_cases hlt : ic < ac
    ·have HY := Lib.hid (HX.out.trans (if_pos hlt))
     clear HX
     go_wp2_with fail
     refine (fail_calls _ _ _).mono ?_
     rintro e w4 ⟨⟨g, rfl, hg'⟩, hb⟩
     have hb3 := HB.out.alloc HB.out.size (.cells #[.bool ie, .int .i64 ic, .slice A' il.length n', .int .i64 ia, .int .i64 ix] 189)
     exact ⟨rfl, Tells.err HY.out (Below.up hb3 hb) (Bad.up ⟨g, rfl, hg'⟩ hb3)⟩
    ·have HY := Lib.hid (HX.out.trans (if_neg hlt))
     clear HX
     go_wp2_with fail
     (try simp only [Exit.inBlock, Exit.then])
     obtain ⟨w5, hw5⟩ : ∃ X, X = set5 w3 (W.heap.size + 1) (.bool ie) (.int .i64 ic) (.slice (some ⟨w3.heap.size + 1, 0, none⟩) 1 1) (.int .i64 ia) (.int .i64 ix) := ⟨_, rfl⟩
     have hz5 : w5.heap.size = w3.heap.size := by rw [hw5]; exact set5_size _ _ _ _ _ _ _
     have hg5 : w5.heap[W.heap.size + 1]? = some (.cells #[.bool ie, .int .i64 ic, .slice (some ⟨w3.heap.size + 1, 0, none⟩) 1 1, .int .i64 ia, .int .i64 ix] 189 (0, 0)) := by rw [hw5]; exact set5_blk HL.out.2.2
     have hb5 : Below W.heap.size W w5 := by rw [hw5]; exact set5_below HB.out (Nat.le_succ _) _ _ _ _ _
     have hb6 := hb5.alloc hb5.size (.cells #[.bool ie, .int .i64 ic, .slice (some ⟨w3.heap.size + 1, 0, none⟩) 1 1, .int .i64 ia, .int .i64 ix] 189)
     have hr7 := Row.two (w5.alloc (.cells #[.bool ie, .int .i64 ic, .slice (some ⟨w3.heap.size + 1, 0, none⟩) 1 1, .int .i64 ia, .int .i64 ix] 189)) ac ic (by have := HL.out.2.1; omega) (by have h1 := HL.out.1.c0; have h2 := HL.out.1.c1; simp only at h1 h2; omega)
     have hz6 : (w5.alloc (.cells #[.bool ie, .int .i64 ic, .slice (some ⟨w3.heap.size + 1, 0, none⟩) 1 1, .int .i64 ia, .int .i64 ix] 189)).heap.size = w3.heap.size + 1 := by rw [← hz5]; simp
     have hb7 := hb6.alloc hb6.size (.cells #[.int .i64 ac, .int .i64 ic] 39)
     have hgg := (heap_alloc_old (w5.alloc (.cells #[.bool ie, .int .i64 ic, .slice (some ⟨w3.heap.size + 1, 0, none⟩) 1 1, .int .i64 ia, .int .i64 ix] 189)) (.cells #[.int .i64 ac, .int .i64 ic] 39) (by rw [hz6]; omega)).trans ((heap_alloc_old w5 (.cells #[.bool ie, .int .i64 ic, .slice (some ⟨w3.heap.size + 1, 0, none⟩) 1 1, .int .i64 ia, .int .i64 ix] 189) (by rw [hz5]; exact hsz)).trans hg5)
     rw [hz6] at hr7
     rw [hw5] at hgg hb7 hr7
     refine bodyPost_ret (results_cell_row rfl _ _ (W.heap.size + 1) 189 #[.bool ie, .int .i64 ic, .slice (some ⟨w3.heap.size + 1, 0, none⟩) 1 1, .int .i64 ia, .int .i64 ix] (0, 0) _ rfl hgg Tryz.underlying189 rfl (by kernel_rfl)) rfl ?_
     exact Tells.ok HY.out hb7 ⟨.slice (some ⟨w3.heap.size + 1, 0, none⟩) 1 1, rfl, hr7.lower (by omega)⟩
end Go.Proofs.YtamhkdlcoghdbaaGreatDoor.PCls
