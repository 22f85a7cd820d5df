/- Put together (wip/tools/pack.py): QHb, QLc, QLo. -/
import Derived.Test.YtamhkdlcoghdbaaGreatDoorKMQWp
import Derived.Lib.Bytes2
/- Out of Hb (wip/tools/prune2.py): the declarations alone that the texts of the trees name. -/
namespace Go.Proofs.YtamhkdlcoghdbaaGreatDoor.PCls
open Go.RowKit Go.Shelf Go.Proofs.YtamhkdlcoghdbaaGreatDoorW.PrintWords Go.Proofs.YtamhkdlcoghdbaaGreatDoorW.PrintLast Go.Proofs.YtamhkdlcoghdbaaGreatDoorW.PrintMore
set_option linter.unusedVariables false
set_option linter.unusedSimpArgs false
theorem class_row (w : World) (base : Nat) (v : Value) (l : List S64) (h : Row w base v l) : Calls Tryz.prog 193 #[v] w fun e w' => ∃ v', e = .returned v' ∧ Row w' w.heap.size v' (Cls.cls l) ∧ Below w.heap.size w w' := by
 obtain ⟨A, c, rfl, hc, hC⟩ := Kd.R_reads h.R
 obtain ⟨k, hk⟩ := (class_ends l (by have := h.2.2; omega) h.2.1).get
 refine (classes_class.calls k A c l _ w hC hc hk).mono ?_
 rintro e w' ⟨v', rfl, hR, hb⟩
 exact ⟨v', rfl, ⟨own_of_R hR, linR_cls l h.2.1, by have := cls_length l; have := h.2.2; omega⟩, hb⟩
/-- between two rounds over the first class -/
def LsHd (W w2 wr : World) (x R : List S64) (i : Nat) (v1 v5 : Value) : Prop := ∃ bb out : List S64, SlAt w2 v1 bb ∧ wr.ownsRow w2.heap.size 39 2 v5 out.length (rowOf out) ∧ Below w2.heap.size w2 wr ∧ (inR bb = true ∧ bb.length < 2000000) ∧ out ++ Cls.less (x.drop i) bb = R
/-- between two rounds of the cutting -/
def LsCt (w2 wq : World) (q : Nat) (rhi : Int) (d rest R : List S64) (k : Nat) (v5 : Value) : Prop := ∃ (lo : Int) (out : List S64), wq.heap[q]? = some (.cells #[.int .i64 lo, .int .i64 rhi] 39 (0, 0)) ∧ wq.ownsRow w2.heap.size 39 2 v5 out.length (rowOf out) ∧ v5.ownBlock ≠ some q ∧ Below w2.heap.size w2 wq ∧ (-9223372036854775808 ≤ lo ∧ lo ≤ 9223372036854775807) ∧ out ++ (Cls.cut rhi lo (d.drop k) ++ Cls.less rest d) = R
/-- behind the cutting -/
def LsEn (w2 wq : World) (q : Nat) (rhi : Int) (d rest R : List S64) (left : Bool) (v5 : Value) : Prop := ∃ (lo : Int) (out : List S64), wq.heap[q]? = some (.cells #[.int .i64 lo, .int .i64 rhi] 39 (0, 0)) ∧ wq.ownsRow w2.heap.size 39 2 v5 out.length (rowOf out) ∧ v5.ownBlock ≠ some q ∧ Below w2.heap.size w2 wq ∧ (-9223372036854775808 ≤ lo ∧ lo ≤ 9223372036854775807) ∧ out ++ ((if left = true then [(⟨lo, rhi⟩ : S64)] else []) ++ Cls.less rest d) = R
theorem ls_blk {W : World} {g : Nat} {t : TypeId} {cur : Array Value} (h : W.heap[g]? = some (.cells cur t (0, 0))) (o : Nat) (v : Value) : (W.setCell ⟨g, o, none⟩ v).heap[g]? = some (.cells (cur.setIfInBounds o v) t (0, 0)) := by
 simp only [World.setCell, Array.getElem?_modify]
 rw [h]
 simp
theorem SlAt.nil (w : World) (A : Option Addr) (c : Nat) : SlAt w (.slice A 0 c) [] := ⟨A, c, rfl, Nat.zero_le _, fun j r hj => by simp at hj⟩
set_option maxHeartbeats 8000000 in
set_option maxRecDepth 100000 in
theorem less_row (W : World) (b1 b2 : Nat) (v1 v2 : Value) (l1 l2 : List S64) (h1 : Row W b1 v1 l1) (h2 : Row W b2 v2 l2) (hin : inR (Cls.less_ l1 l2) = true) (hlen : (Cls.less_ l1 l2).length < 2000000) :
  Calls Tryz.prog 150 #[v1, v2] W fun e w' => ∃ v', e = .returned v' ∧ Row w' W.heap.size v' (Cls.less_ l1 l2) ∧ Below W.heap.size W w' := by
 have HC1 := Lib.hid (class_row W b1 v1 l1 h1)
 have HC2 := Lib.hid (fun (w : World) (hb : Below W.heap.size W w) => class_row w b2 v2 l2 (h2.below hb))
 obtain ⟨R, hR⟩ : ∃ R, R = Cls.less_ l1 l2 := ⟨_, rfl⟩
 rw [← hR] at hin hlen ⊢
 have HR := Lib.hid (And.intro hR (And.intro hin hlen))
 obtain ⟨A1, cp1, rfl⟩ := h1.form
 obtain ⟨A2, cp2, rfl⟩ := h2.form
 clear h1 h2 hR hin hlen
 go_enter Tryz.func150, Tryz.ntmps150
 go_wp2_with fail
 refine HC1.out.mono ?_
 rintro e w1 ⟨u1, rfl, hr1, hb1⟩
 have HX := Lib.hid (And.intro hr1 hb1)
 clear hr1 hb1 HC1
 go_wp2_with fail
 refine (HC2.out w1 HX.out.2).mono ?_
 rintro e w2 ⟨u2, rfl, hr2, hb2⟩
 have hx2 := HX.out.1.below hb2
 have HB2 := Lib.hid (HX.out.2.trans (hb2.mono HX.out.2.size))
 obtain ⟨x, hxe⟩ : ∃ x, x = Cls.cls l1 := ⟨_, rfl⟩
 have HXE := Lib.hid hxe
 rw [← hxe] at hx2
 have hst : LsHd W w2 w2 x R 0 u2 (.slice none 0 0) := ⟨Cls.cls l2, [], hr2.sl, ⟨rfl, .inl ⟨rfl, rfl⟩⟩, Below.refl _ _, hr2.2, by rw [hxe]; exact HR.out.1.symm⟩
 have hxin := hx2.2.1
 have hxl := hx2.2.2
 obtain ⟨Ax, cx, rfl, hcx, hxc⟩ := hx2.sl
 have HXC := Lib.hid (And.intro hxc hxin)
 have HST := Lib.hid hst
 clear hr2 hb2 hx2 hst HC2 HX hxc hxin hxe
 go_wp2_with fail
 go_loopg [1, 5, 17] x.length (fun gg s1 s5 s17 wr => ∃ (i : Nat), i ≤ x.length ∧ s17 = .int .i64 i ∧ Aside0 (LsHd W w2 wr x R i s1 s5) ∧ x.length - i ≤ gg)
 case atStart => exact ⟨0, Nat.zero_le _, rfl, ⟨HST.out⟩, by omega⟩
 case round =>
  obtain ⟨i, hi, rfl, HS, hgg⟩ := hrel
  by_cases hlt : i < x.length
  ·obtain ⟨r, hr⟩ : ∃ r, x[i]? = some r := ⟨_, List.getElem?_eq_getElem hlt⟩
   obtain ⟨bb, out, hbb, hout, hbw, hbin, heq⟩ := HS.out
   obtain ⟨gx, ox, rfl, hgx, hc0, hc1⟩ := HXC.out.1 i r hr
   have hrin := inR_at HXC.out.2 hr
   have k0 := (hbw.cell (p := ⟨gx, _, none⟩) hgx).trans hc0
   have k1 := (hbw.cell (p := ⟨gx, _, none⟩) hgx).trans hc1
   have hdr : x.drop i = r :: x.drop (i + 1) := by
    obtain ⟨hi', e⟩ := List.getElem?_eq_some_iff.1 hr
    rw [List.drop_eq_getElem_cons hi', e]
   rw [hdr, Cls.less_cons] at heq
   have hlz : (i : Int) < (x.length : Int) := by omega
   have hi9 : i + 1 < 900000000000000 := by omega
   have hgx2 := Nat.lt_of_lt_of_le hgx hbw.size
   obtain ⟨rest, hrest⟩ : ∃ l, l = x.drop (i + 1) := ⟨_, rfl⟩
   rw [← hrest] at heq
   have HRE := Lib.hid hrest
   obtain ⟨rlo, rhi⟩ := r
   simp only [S64.f0, S64.f1] at k0 k1 hrin heq
   have hq1 : wr.ownsRow w2.heap.size 39 2 u5 out.length (rowOf out) := hout
   have HI := Lib.hid (And.intro hbb (And.intro hout (And.intro hbw (And.intro hbin heq))))
   clear hbb hout hbw hbin heq hdr HST HS hc0 hc1 hr hrest hq1
   go_upto_block 2 with fail
   obtain ⟨q, hq⟩ : ∃ q, q = wr.heap.size := ⟨_, rfl⟩
   obtain ⟨W3, hW3⟩ : ∃ X, X = wr.alloc (Obj.cells #[Value.int IntKind.i64 rlo, Value.int IntKind.i64 rhi] 39) := ⟨_, rfl⟩
   rw [← hW3, ← hq]
   have g0 : W3.heap[q]? = some (.cells #[.int .i64 rlo, .int .i64 rhi] 39 (0, 0)) := by rw [hW3, hq]; exact heap_alloc_new _ _
   have g1 : Below wr.heap.size wr W3 := by rw [hW3]; exact (Below.refl _ _).alloc (Nat.le_refl _) _
   have HQ := Lib.hid (And.intro hq g1)
   have HG := Lib.hid g0
   clear hW3 hq g1 k0 k1
   have hq2 : w2.heap.size ≤ q := by rw [HQ.out.1]; exact HI.out.2.2.1.size
   have c0 : W3.cell? ⟨q, 0, none⟩ = some (.int .i64 rlo) := lk_cell g0 (by rfl)
   clear g0
   have hB3 : Below w2.heap.size w2 W3 := HI.out.2.2.1.trans (HQ.out.2.mono HI.out.2.2.1.size)
   have HB3 := Lib.hid hB3
   go_cut [1] (fun s1 wc => ∃ d, SlAt w2 s1 d ∧ inR d = true ∧ d = bb.dropWhile (fun x => decide (x.f1 < rlo)) ∧ Aside0 (wc.heap = W3.heap ∧ Below w2.heap.size w2 wc))
   case first =>
    go_wp2_with fail
    go_loopg [1] bb.length (fun gg s1 wc => ∃ d, Aside0 (SlAt w2 s1 d ∧ inR d = true ∧ d.dropWhile (fun x => decide (x.f1 < rlo)) = bb.dropWhile (fun x => decide (x.f1 < rlo))) ∧ Aside0 (wc.heap = W3.heap ∧ Below w2.heap.size w2 wc) ∧ d.length ≤ gg)
    case atStart => exact ⟨bb, ⟨HI.out.1, HI.out.2.2.2.1.1, rfl⟩, ⟨rfl, HB3.out⟩, Nat.le_refl _⟩
    case round =>
     obtain ⟨d, HD, HW, hdg⟩ := hrel
     have c1 : wr.cell? ⟨q, 0, none⟩ = some (.int .i64 rlo) := lk_cell (i := 0) ((congrArg (·[q]?) HW.out.1).trans HG.out) rfl
     clear c0
     cases d with
     | nil =>
      obtain ⟨Ad, cd, rfl, hcd, hdd⟩ := HD.out.1
      go_wp2
      repeat (go_quiet (fail); try go_wp2)
      go_meet
      exact ⟨[], HD.out.1, rfl, by simpa using HD.out.2.2, ⟨HW.out.1, pw_below_drewN HW.out.2 _⟩⟩
     | cons y d =>
      obtain ⟨Ad, cd, rfl, hcd, hdd⟩ := HD.out.1
      obtain ⟨gd, od, rfl, hgd, hd0, hd1⟩ := hdd 0 y rfl
      have m1 := (HW.out.2.cell (p := ⟨gd, _, none⟩) hgd).trans hd1
      have hyr := inR_at HD.out.2.1 (j := 0) (r := y) rfl
      clear hdd hd0 hd1
      obtain ⟨ylo, yhi⟩ := y
      simp only [S64.f0, S64.f1, List.length_cons] at m1 hcd hyr hdg ⊢
      have hyp : (0 : Int) < ((d.length + 1 : Nat) : Int) := by omega
      have hin' : inR d = true := (inR_iff _).2 fun r hr => (inR_iff _).1 HD.out.2.1 r (List.mem_cons_of_mem _ hr)
      have HIN := Lib.hid hin'
      clear hin'
      by_cases hy : yhi < rlo
      ·have hdw : d.dropWhile (fun x => decide (x.f1 < rlo)) = bb.dropWhile (fun x => decide (x.f1 < rlo)) := by rw [← HD.out.2.2, List.dropWhile_cons]; simp [hy]
       have HDW := Lib.hid hdw
       clear hdw
       go_wp2
       repeat (go_quiet (fail); try go_wp2)
       ·have h0 : d = [] := List.eq_nil_of_length_eq_zero (by omega)
        have H0 := Lib.hid h0
        clear h0
        go_roundg d.length
        case measure => omega
        case rel => exact ⟨[], ⟨by rw [H0.out]; exact SlAt.nil _ _ _, rfl, by have h := HDW.out; rw [H0.out] at h; exact h⟩, ⟨HW.out.1, pw_below_drewN HW.out.2 _⟩, Nat.zero_le _⟩
       ·go_roundg d.length
        case measure => omega
        case rel => exact ⟨d, ⟨HD.out.1.tail, HIN.out, HDW.out⟩, ⟨HW.out.1, pw_below_drewN HW.out.2 _⟩, Nat.le_refl _⟩
      ·go_wp2
       repeat (go_quiet (fail); try go_wp2)
       go_meet
       exact ⟨_, HD.out.1, HD.out.2.1, by rw [← HD.out.2.2]; simp [List.dropWhile_cons, hy], ⟨HW.out.1, pw_below_drewN HW.out.2 _⟩⟩
   case rest =>
    obtain ⟨d, hd, hdin, hde, HW⟩ := hcut
    rw [← hde] at HI
    obtain ⟨Ad, cd, rfl, hcd, hdd⟩ := hd
    have HDD := Lib.hid (And.intro hdd hdin)
    have hst : LsCt w2 wc q rhi d rest R 0 u5 := by
     refine ⟨rlo, out, (congrArg (·[q]?) HW.out.1).trans HG.out, ownMove HI.out.2.1 (fun k hk => (congrArg (·[k]?) HW.out.1).trans (HQ.out.2.block k (ownLt HI.out.2.1 k hk).2)), fun e => by have := (ownLt HI.out.2.1 q e).2; have := HQ.out.1; omega, HW.out.2, ⟨hrin.1, hrin.2.1⟩, HI.out.2.2.2.2⟩
    have HST := Lib.hid hst
    have hrh := hrin.2.2
    have HDE := Lib.hid hde
    have hdl : d.length < 2000000 := by have h1 := HI.out.2.2.2.1.2; have h2 := (List.dropWhile_sublist (fun x : S64 => decide (x.f1 < rlo)) (l := bb)).length_le; rw [hde]; omega
    clear hdd hdin hst hrin c0 hde HG HQ
    go_upto_block 4 with fail
    go_cut [5, 8] (fun s5 s8 wx => ∃ left, s8 = .bool left ∧ Aside0 (LsEn w2 wx q rhi d rest R left s5))
    case first =>
     go_wp2_with fail
     go_loopg [5, 8, 37] d.length (fun gg s5 s8 s37 wx => ∃ k : Nat, k ≤ d.length ∧ s37 = .int .i64 k ∧ s8 = .bool true ∧ Aside0 (LsCt w2 wx q rhi d rest R k s5) ∧ d.length - k ≤ gg)
     case atStart => exact ⟨0, Nat.zero_le _, rfl, rfl, ⟨HST.out⟩, by omega⟩
     case round =>
      obtain ⟨k, hk, rfl, rfl, HS, hkg⟩ := hrel
      obtain ⟨lo, out2, e0, e1, e2, e3, e4, e5⟩ := HS.out
      by_cases hkl : k < d.length
      ·obtain ⟨y, hy⟩ : ∃ y, d[k]? = some y := ⟨_, List.getElem?_eq_getElem hkl⟩
       obtain ⟨gd, od, rfl, hgd, hd0, hd1⟩ := HDD.out.1 k y hy
       have hyr := inR_at HDD.out.2 hy
       have m0 := (e3.cell (p := ⟨gd, _, none⟩) hgd).trans hd0
       have m1 := (e3.cell (p := ⟨gd, _, none⟩) hgd).trans hd1
       have hgd2 := Nat.lt_of_lt_of_le hgd e3.size
       have hdr : d.drop k = y :: d.drop (k + 1) := by
        obtain ⟨hi', e⟩ := List.getElem?_eq_some_iff.1 hy
        rw [List.drop_eq_getElem_cons hi', e]
       rw [hdr, Cls.cut_cons] at e5
       obtain ⟨ylo, yhi⟩ := y
       simp only [S64.f0, S64.f1] at m0 m1 hyr e5
       have HE := Lib.hid (And.intro e0 (And.intro e1 (And.intro e2 (And.intro e3 e5))))
       have hk9 : k + 1 < 900000000000000 := by omega
       have hkz : (k : Int) < (d.length : Int) := by omega
       clear e0 e1 e2 e3 e5 HS hd0 hd1 hdr hy
       go_upto_region 12 with fail
       obtain ⟨q4, hq4⟩ : ∃ q, q = wr.heap.size := ⟨_, rfl⟩
       obtain ⟨W4, hW4⟩ : ∃ X, X = wr.alloc (Obj.cells #[Value.int IntKind.i64 ylo, Value.int IntKind.i64 yhi] 39) := ⟨_, rfl⟩
       rw [← hW4, ← hq4]
       have hqq : q < q4 := by rw [hq4]; exact (Array.getElem?_eq_some_iff.1 HE.out.1).1
       have g0 : W4.heap[q]? = some (.cells #[.int .i64 lo, .int .i64 rhi] 39 (0, 0)) := by rw [hW4, heap_alloc_old _ _ (by omega)]; exact HE.out.1
       have g4 : W4.heap[q4]? = some (.cells #[.int .i64 ylo, .int .i64 yhi] 39 (0, 0)) := by rw [hW4, hq4]; exact heap_alloc_new _ _
       have ho4 : W4.ownsRow w2.heap.size 39 2 u5 out2.length (rowOf out2) := by rw [hW4]; exact HE.out.2.1.alloc _
       have hB4 : Below w2.heap.size w2 W4 := by rw [hW4]; exact HE.out.2.2.2.1.alloc HE.out.2.2.2.1.size _
       have hu5 : ∀ j, u5.ownBlock = some j → j < q4 := fun j hj => by rw [hq4]; exact (ownLt HE.out.2.1 j hj).2
       have hs4 : W4.heap.size = q4 + 1 := by rw [hW4, hq4]; simp
       have H4 := Lib.hid (And.intro ho4 (And.intro hB4 (And.intro HE.out.2.2.1 (And.intro hu5 hs4))))
       have H5 := Lib.hid HE.out.2.2.2.2
       have H6 := Lib.hid (And.intro g0 g4)
       have c0 := lk_cell (i := 0) g0 rfl
       have c1 := lk_cell (i := 1) g0 rfl
       have k0 := lk_cell (i := 0) g4 rfl
       have k1 := lk_cell (i := 1) g4 rfl
       clear hW4 hq4 g0 g4 ho4 hB4 hu5 hs4 m0 m1 HE
       by_cases hgt : rhi < ylo
       ·go_wp2_with fail
        go_meet
        refine ⟨true, rfl, ⟨lo, out2, H6.out.1, H4.out.1, H4.out.2.2.1, H4.out.2.1, e4, ?_⟩⟩
        have h := H5.out
        rw [if_pos hgt] at h
        exact h
       ·have hR5 : (out2 ++ ((if lo < ylo then [(⟨lo, ylo - 1⟩ : S64)] else []) ++ ((if yhi < rhi then Cls.cut rhi (yhi + 1) (d.drop (k + 1)) else []) ++ Cls.less rest d))) = R := by
         have h := H5.out
         rw [if_neg (by omega)] at h
         simpa [List.append_assoc] using h
        have HR5 := Lib.hid hR5
        have hol : out2.length < 8000000 := by
         have h := congrArg List.length hR5
         have h2 := HR.out.2.2
         rw [List.length_append] at h
         omega
        clear hR5 H5
        go_upto_region 13 with fail
        go_upto_if 50 with fail
        go_cut [5] (fun s5 wx => ∃ out3, Aside0 (wx.heap[q]? = some (.cells #[.int .i64 lo, .int .i64 rhi] 39 (0, 0)) ∧ wx.heap[q4]? = some (.cells #[.int .i64 ylo, .int .i64 yhi] 39 (0, 0)) ∧ wx.ownsRow w2.heap.size 39 2 s5 out3.length (rowOf out3) ∧ s5.ownBlock ≠ some q ∧ Below w2.heap.size w2 wx ∧ out3 ++ ((if yhi < rhi then Cls.cut rhi (yhi + 1) (d.drop (k + 1)) else []) ++ Cls.less rest d) = R))
        case first =>
         by_cases hly : lo < ylo
         ·have hfit : -9223372036854775808 ≤ ylo - 1 ∧ ylo - 1 ≤ 9223372036854775807 := by omega
          obtain ⟨v', W5, hrun, hown, hg, hat⟩ := own_range (X := W4.alloc (.cells #[.int .i64 lo, .int .i64 (ylo - 1)] 39)) (H4.out.1.alloc _) ⟨W4.heap.size, 0, none⟩ lo (ylo - 1) (by have := H4.out.2.1.size; simp; omega) hol (lk_cell (i := 0) (heap_alloc_new _ _) rfl) (lk_cell (i := 1) (heap_alloc_new _ _) rfl)
          have HRUN := Lib.hid hrun
          have HO := Lib.hid (And.intro hown (And.intro hg hat))
          clear hrun hown hg hat
          go_wp2_with (at_builtin; refine Lib.wpList_append_run _ rfl _ _ _ _ rfl _ _ rfl rfl _ _ HRUN.out ?_)
          go_meet
          have hx0 : ∀ k o, W4.heap[k]? = some o → some k ≠ u5.ownBlock → W5.heap[k]? = some o := fun k o h hne => (HO.out.2.1.block k (by have := (Array.getElem?_eq_some_iff.1 h).1; simp; omega) hne).trans ((heap_alloc_old _ _ (Array.getElem?_eq_some_iff.1 h).1).trans h)
          refine ⟨out2 ++ [⟨lo, ylo - 1⟩], ⟨hx0 q _ H6.out.1 (fun e => H4.out.2.2.1 e.symm), hx0 q4 _ H6.out.2 (fun e => by have := H4.out.2.2.2.1 q4 e.symm; omega), HO.out.1, ?_, ?_, ?_⟩⟩
          ·rcases HO.out.2.2 with e | e
           ·rw [e]; exact H4.out.2.2.1
           ·rw [e]; intro e'; have e2 := Option.some.inj e'; have e3 := H4.out.2.2.2.2; simp at e2; omega
          ·exact (H4.out.2.1.alloc H4.out.2.1.size _).grown HO.out.2.1 (by have := H4.out.2.1.size; simp; omega) (fun k hk => (ownLt H4.out.1 k hk).1)
          ·have h := HR5.out
           rw [if_pos (by omega)] at h
           simpa [List.append_assoc] using h
         ·go_wp2_with fail
          go_meet
          exact ⟨out2, ⟨H6.out.1, H6.out.2, H4.out.1, H4.out.2.2.1, H4.out.2.1, by have h := HR5.out; rw [if_neg (by omega)] at h; exact h⟩⟩
        case rest =>
         obtain ⟨out3, HN⟩ := hcut
         have c0' := lk_cell (i := 0) HN.out.1 rfl
         have c1' := lk_cell (i := 1) HN.out.1 rfl
         have k1' := lk_cell (i := 1) HN.out.2.1 rfl
         have fz0 := blk_frozen HN.out.1 0
         clear c0 c1 k0 k1 H4 H6 HR5
         by_cases hyr2 : yhi < rhi
         ·have hfit : -9223372036854775808 ≤ yhi + 1 ∧ yhi + 1 ≤ 9223372036854775807 := by omega
          go_wp2_with fail
          go_roundg (d.length - (k + 1))
          case measure => omega
          case rel => exact ⟨k + 1, by omega, by go_num, rfl, ⟨yhi + 1, out3, ls_blk HN.out.1 0 _, ownMove HN.out.2.2.1 (fun j hj => Below.heap_setCell _ _ _ j (fun e => HN.out.2.2.2.1 (by rw [hj]; exact congrArg some e))), HN.out.2.2.2.1, HN.out.2.2.2.2.1.setCell hq2 _, hfit, by have h := HN.out.2.2.2.2.2; rw [if_pos (by omega)] at h; exact h⟩, by omega⟩
         ·go_wp2_with fail
          go_meet
          exact ⟨false, rfl, ⟨lo, out3, HN.out.1, HN.out.2.2.1, HN.out.2.2.2.1, HN.out.2.2.2.2.1, e4, by have h := HN.out.2.2.2.2.2; rw [if_neg (by omega)] at h; exact h⟩⟩
      ·go_wp2_with fail
       go_meet
       have hdn : d.drop k = [] := List.drop_eq_nil_of_le (by omega)
       exact ⟨true, rfl, ⟨lo, out2, e0, e1, e2, e3, e4, by rw [hdn] at e5; exact e5⟩⟩
    case rest =>
     obtain ⟨left, rfl, HN⟩ := hcut
     obtain ⟨lo, out2, e0, e1, e2, e3, e4, e5⟩ := HN.out
     have HD2 := Lib.hid (show SlAt w2 (.slice Ad d.length cd) d ∧ (inR d = true ∧ d.length < 2000000) from ⟨⟨Ad, cd, rfl, hcd, HDD.out.1⟩, HDD.out.2, hdl⟩)
     cases left with
     | true =>
      have hol : out2.length < 8000000 := by
       have h := congrArg List.length e5
       have h2 := HR.out.2.2
       rw [List.length_append] at h
       omega
      obtain ⟨v', W6, hrun, hown, hg, hat⟩ := own_range (X := wc.alloc (.cells #[.int .i64 lo, .int .i64 rhi] 39)) (e1.alloc _) ⟨wc.heap.size, 0, none⟩ lo rhi (by have := e3.size; simp; omega) hol (lk_cell (i := 0) (heap_alloc_new _ _) rfl) (lk_cell (i := 1) (heap_alloc_new _ _) rfl)
      have HRUN := Lib.hid hrun
      have HO := Lib.hid (And.intro hown (show Below w2.heap.size w2 W6 from (e3.alloc e3.size _).grown hg (by have := e3.size; simp; omega) (fun k hk => (ownLt e1 k hk).1)))
      have H5 := Lib.hid e5
      have c0 := lk_cell (i := 0) e0 rfl
      have c1 := lk_cell (i := 1) e0 rfl
      clear hrun hown hg hat e0 e1 e2 e3 e5 HN HDD HW HST
      go_wp2_with (at_builtin; refine Lib.wpList_append_run _ rfl _ _ _ _ rfl _ _ rfl rfl _ _ HRUN.out ?_)
      go_roundg (x.length - (i + 1))
      case measure => omega
      case rel => exact ⟨i + 1, by omega, by go_num, ⟨d, out2 ++ [⟨lo, rhi⟩], HD2.out.1, HO.out.1, HO.out.2, HD2.out.2, by have h := H5.out; simp only [reduceIte] at h; rw [HRE.out, ← List.append_assoc] at h; exact h⟩, Nat.le_refl _⟩
     | false =>
      clear HDD HW HST
      go_wp2_with fail
      go_roundg (x.length - (i + 1))
      case measure => omega
      case rel => exact ⟨i + 1, by omega, by go_num, ⟨d, out2, HD2.out.1, e1, e3, HD2.out.2, by have h := e5; simp only [Bool.false_eq_true, reduceIte, List.nil_append] at h; rw [HRE.out] at h; exact h⟩, Nat.le_refl _⟩
  ·obtain ⟨bb, out, hbb, hout, hbw, hbin, heq⟩ := HS.out
   have hx0 : x.drop i = [] := List.drop_eq_nil_of_le (by omega)
   have hoR : out = R := by rw [hx0] at heq; simpa [Cls.less] using heq
   have HF := Lib.hid (show Row wr W.heap.size u5 R ∧ Below W.heap.size W wr from ⟨⟨own_weaken (by rw [← hoR]; exact hout) HB2.out.size, HR.out.2⟩, HB2.out.trans (hbw.mono HB2.out.size)⟩)
   clear hbb hout hbw hbin heq HS
   go_wp2_with fail
   go_ret
   exact ⟨_, rfl, HF.out⟩
end Go.Proofs.YtamhkdlcoghdbaaGreatDoor.PCls
/- Out of Lc (wip/tools/prune2.py): the declarations alone that the texts of the trees name. -/
namespace Go.Proofs.YtamhkdlcoghdbaaGreatDoor.PCls
open Go.RowKit Go.Shelf Go.Proofs.YtamhkdlcoghdbaaGreatDoorW.PrintWords Go.Proofs.YtamhkdlcoghdbaaGreatDoorW.PrintLast Go.Proofs.YtamhkdlcoghdbaaGreatDoorW.PrintMore
set_option linter.unusedVariables false
set_option linter.unusedSimpArgs false
def clC : CL := ⟨fun n => ((Cls.named n.data.toList).getD [], (Cls.named n.data.toList).isSome), Cls.norm, Cls.fold, fun l m => Cls.less_ (Cls.all m) l⟩
theorem Row.one (W : World) (c : Int) (h : -9223372036854775808 ≤ c ∧ c ≤ 9223372036854775807) : Row (W.alloc (.cells #[.int .i64 c, .int .i64 c] 39)) W.heap.size (.slice (some ⟨W.heap.size, 0, none⟩) 1 1) [⟨c, c⟩] :=
 ⟨⟨rfl, .inr ⟨W.heap.size, 1, _, rfl, Nat.le_refl _, heap_alloc_new W _, Nat.le_refl _, by decide, rfl, rfl⟩⟩, by simp [inR, h], by simp⟩
theorem fold_inR (l : List S64) (h : inR l = true) : inR (Cls.fold l) = true := linR_cls _ (toFold_inR _ h)
theorem all_lim (m : Bool) (c : Int) (h : Cls.Mem (Cls.all m) c) : 0 ≤ c ∧ c ≤ 1114111 := by
 cases m <;> simp [Cls.all, Cls.Mem] at h <;> omega
theorem norm_inR (l : List S64) (m : Bool) : inR (Cls.norm l m) = true := linR_of_mem _ (Cls.norm_can l m) fun c hc => by
 have := all_lim m c ((Cls.norm_mem l m c).1 hc).2
 omega
theorem norm_length (l : List S64) (m : Bool) : (Cls.norm l m).length ≤ 1114112 :=
 can_count 1114111 _ 0 (Cls.norm_can l m) fun c hc => all_lim m c ((Cls.norm_mem l m c).1 hc).2
theorem not_mem (l : List S64) (m : Bool) (c : Int) (h : Cls.Mem (Cls.less_ (Cls.all m) l) c) : 0 ≤ c ∧ c ≤ 1114111 :=
 all_lim m c ((Cls.cls_mem _ c).1 (((Cls.less_spec _ _ (Cls.cls_can _) (Cls.cls_can _)).2 c).1 h).1)
theorem not_inR (l : List S64) (m : Bool) : inR (Cls.less_ (Cls.all m) l) = true := linR_of_mem _ (Cls.less_can _ _) fun c hc => by
 have := not_mem l m c hc
 omega
theorem not_length (l : List S64) (m : Bool) : (Cls.less_ (Cls.all m) l).length ≤ 1114112 :=
 can_count 1114111 _ 0 (Cls.less_can _ _) fun c hc => not_mem l m c hc
theorem fold_row (w : World) (base : Nat) (v : Value) (l : List S64) (h : Row w base v l) (hl : l.length ≤ 1900000) : Calls Tryz.prog 63 #[v] w fun e w' => ∃ v', e = .returned v' ∧ Row w' w.heap.size v' (Cls.fold l) ∧ Below w.heap.size w w' := by
 obtain ⟨A, c, rfl, hc, hC⟩ := Kd.R_reads h.R
 refine (classes_Fold.calls A c l (Cls.fold l) w hC hc (by unfold classes_Fold.f; rw [if_pos (by omega), if_pos h.2.1])).mono ?_
 rintro e w' ⟨v', rfl, hR, hb⟩
 exact ⟨v', rfl, ⟨own_of_R hR, fold_inR l h.2.1, by have := fold_length l; omega⟩, hb⟩
theorem norm_row (w : World) (base : Nat) (v : Value) (l : List S64) (m : Bool) (h : Row w base v l) : Calls Tryz.prog 149 #[v, .bool m] w fun e w' => ∃ v', e = .returned v' ∧ Row w' w.heap.size v' (Cls.norm l m) ∧ Below w.heap.size w w' := by
 obtain ⟨A, c, rfl, hc, hC⟩ := Kd.R_reads h.R
 obtain ⟨k, hk⟩ := (norm_ends l m (by have := h.2.2; omega) h.2.1).get
 refine (classes_Norm.calls k A c l m _ w hC hc hk).mono ?_
 rintro e w' ⟨v', rfl, hR, hb⟩
 exact ⟨v', rfl, ⟨own_of_R hR, norm_inR l m, by have := norm_length l m; omega⟩, hb⟩
theorem all_row (w : World) (m : Bool) : Calls Tryz.prog 151 #[.bool m] w fun e w' => ∃ v', e = .returned v' ∧ Row w' w.heap.size v' (Cls.all m) ∧ Below w.heap.size w w' := by
 refine (classes_all.calls m (Cls.all m) w (by cases m <;> rfl)).mono ?_
 rintro e w' ⟨v', rfl, hR, hb⟩
 exact ⟨v', rfl, ⟨own_of_R hR, all_inR m, by have := all_length m; omega⟩, hb⟩
set_option maxHeartbeats 4000000 in
set_option maxRecDepth 100000 in
theorem not_row (w : World) (base : Nat) (v : Value) (l : List S64) (m : Bool) (h : Row w base v l) : Calls Tryz.prog 97 #[v, .bool m] w fun e w' => ∃ v', e = .returned v' ∧ Row w' w.heap.size v' (Cls.less_ (Cls.all m) l) ∧ Below w.heap.size w w' := by
 have HA := Lib.hid (all_row w m)
 have HL := Lib.hid (fun (w1 : World) (u : Value) (hb : Below w.heap.size w w1) (hu : Row w1 w.heap.size u (Cls.all m)) => less_row w1 _ _ u v _ l hu (h.below hb) (not_inR l m) (by have := not_length l m; omega))
 obtain ⟨A, c, rfl⟩ := h.form
 clear h
 go_enter Tryz.func97, Tryz.ntmps97
 go_wp2_with fail
 refine HA.out.mono ?_
 rintro e w1 ⟨u1, rfl, hr1, hb1⟩
 obtain ⟨A1, c1, rfl⟩ := hr1.form
 have HX := Lib.hid (And.intro hb1 hr1)
 clear hr1 hb1 HA
 go_wp2_with fail
 refine (HL.out w1 _ HX.out.1 HX.out.2).mono ?_
 rintro e w2 ⟨u2, rfl, hr2, hb2⟩
 have HF := Lib.hid (And.intro (hr2.lower HX.out.1.size) (HX.out.1.trans (hb2.mono HX.out.1.size)))
 clear hr2 hb2 HL
 go_wp2_with fail
 go_ret
 exact ⟨_, rfl, HF.out⟩
set_option maxHeartbeats 4000000 in
set_option maxRecDepth 100000 in
theorem char_calls (W : World) (B base : Nat) (s : ByteArray) (chars fold : Bool) (x : Lx.St) (V : Value) (hst : ScSt W B base s chars fold x V) (c : Int) (hc : -9223372036854775808 ≤ c ∧ c ≤ 9223372036854775807) (e : Nat) (he1 : x.sat < e) (he2 : e ≤ s.size) :
  Calls Tryz.prog 101 #[.pointer (some ⟨B, 0, none⟩), .int .i64 c, .int .i64 e] W fun e' w' => e' = .returned (.tuple #[]) ∧ ∃ V', ScSt w' B base s chars fold (Lx.char clC fold x c e) V' ∧ Stp W w' B base := by
 have c2 := hst.sc.c2
 obtain ⟨r, hr⟩ : ∃ r, r = Lx.oneR clC fold c := ⟨_, rfl⟩
 have HP := Lib.hid (fun (w : World) (rv : Value) (hb : Below W.heap.size W w) (h : Row w W.heap.size rv r) => lput_calls W w B base s chars fold x V hst hb 1 0 0 0 r rv h.1 h.2.1 (by have := h.2.2; omega) e he1 he2)
 have HX := Lib.hid (show Lx.char clC fold x c e = Lx.put x ⟨1, 0, 0, 0, 0, 0, r⟩ e by rw [hr]; rfl)
 have HO := Lib.hid (Row.one W c hc)
 have HB := Lib.hid ((Below.refl W.heap.size W).alloc (Nat.le_refl _) (.cells #[.int .i64 c, .int .i64 c] 39))
 have c3 := (hst.sc.below HB.out).c2
 clear hst he1 he2 hc
 cases fold with
 | false =>
  have HR := Lib.hid (show r = [⟨c, c⟩] from hr)
  clear hr
  go_enter Tryz.func101, Tryz.ntmps101
  go_wp2_with fail
  refine (HP.out _ _ HB.out (by rw [HR.out]; exact HO.out)).mono ?_
  rintro e' w' ⟨rfl, V', h⟩
  go_wp2_with fail
  go_end0
  exact ⟨rfl, V', by rw [HX.out]; exact h⟩
 | true =>
  have HR := Lib.hid (show r = Cls.fold [⟨c, c⟩] from hr)
  clear hr
  go_enter Tryz.func101, Tryz.ntmps101
  go_wp2_with fail
  refine (fold_row _ _ _ _ HO.out (by simp)).mono ?_
  rintro e' w' ⟨v', rfl, h, hb⟩
  have HB2 := Lib.hid (HB.out.trans (hb.mono HB.out.size))
  have HW := Lib.hid (h.lower HB.out.size)
  obtain ⟨A', k', rfl⟩ := h.form
  clear h hb
  go_wp2_with fail
  refine (HP.out _ _ HB2.out (by rw [HR.out]; exact HW.out)).mono ?_
  rintro e' w' ⟨rfl, V', h⟩
  go_wp2_with fail
  go_end0
  exact ⟨rfl, V', by rw [HX.out]; exact h⟩
end Go.Proofs.YtamhkdlcoghdbaaGreatDoor.PCls
/- Out of Lo (wip/tools/prune2.py): the declarations alone that the texts of the trees name. -/
namespace Go.Proofs.YtamhkdlcoghdbaaGreatDoor.PCls
open Go.RowKit Go.Shelf Go.Proofs.YtamhkdlcoghdbaaGreatDoorW.PrintWords Go.Proofs.YtamhkdlcoghdbaaGreatDoorW.PrintLast Go.Proofs.YtamhkdlcoghdbaaGreatDoorW.PrintMore
set_option linter.unusedVariables false
set_option linter.unusedSimpArgs false
/-- what a step of the scanner tells -/
def Steps (W w' : World) (e : Ending) (B base : Nat) (s : ByteArray) (chars fold : Bool) (r : Except Er Lx.St) : Prop := match r with
 | .error x => Bad W.heap.size w' e x.1 x.2 ∧ Below W.heap.size W w'
 | .ok y => e = .returned (.tuple #[]) ∧ (∃ V', ScSt w' B base s chars fold y V') ∧ Stp W w' B base
theorem Steps.ok {W w' : World} {e : Ending} {B base : Nat} {s : ByteArray} {chars fold : Bool} {r : Except Er Lx.St} {y : Lx.St} (h : r = .ok y) (he : e = .returned (.tuple #[])) (hx : ∃ V', ScSt w' B base s chars fold y V' ∧ Stp W w' B base) : Steps W w' e B base s chars fold r := by
 obtain ⟨V', h1, h2⟩ := hx
 rw [h]; exact ⟨he, ⟨V', h1⟩, h2⟩
theorem Steps.err {W w' : World} {e : Ending} {B base : Nat} {s : ByteArray} {chars fold : Bool} {r : Except Er Lx.St} {x : Er} (h : r = .error x) (hx : Bad W.heap.size w' e x.1 x.2) (hb : Below W.heap.size W w') : Steps W w' e B base s chars fold r := by rw [h]; exact ⟨hx, hb⟩
theorem Bad.up {A W w' : World} {e : Ending} {c p : Int} (h : Bad W.heap.size w' e c p) (hb : Below A.heap.size A W) : Bad A.heap.size w' e c p := h.mono hb.size
theorem Below.up {A W w' : World} (hb : Below A.heap.size A W) (h : Below W.heap.size W w') : Below A.heap.size A w' := hb.trans (h.mono hb.size)
theorem here_le {s : ByteArray} {p : Nat} {t : List UInt8} (h : Lx.here s p t = true) : p + t.length ≤ s.size := by
 unfold Lx.here at h
 rw [Bool.and_eq_true, decide_eq_true_eq] at h
 obtain ⟨h0, h1⟩ := h
 have h2 := Lib.hasPrefix_le h1
 have h3 : s.data.toList.length = s.size := by simp
 rw [List.length_drop, h3] at h2
 omega
theorem interval_lim {s : ByteArray} {q p : Nat} {a b : Int} {e2 : Nat} (h : Lx.interval s q p = .ok (a, b, e2)) : p < e2 ∧ e2 ≤ s.size := by
 obtain ⟨a1, ha⟩ : ∃ a1, a1 = Lx.number s (s.size + 1) p (-1) := ⟨_, rfl⟩
 obtain ⟨b1, hb⟩ : ∃ b1, b1 = (if 0 ≤ a1.1 ∧ Lx.here s a1.2 [44] = true then Lx.number s (s.size + 1) (a1.2 + 1) (-1) else (a1.1, a1.2)) := ⟨_, rfl⟩
 rw [interval_eq (q := q) (a1 := a1.1) (a2 := a1.2) (b1 := b1.1) (b2 := b1.2) ha hb.symm] at h
 have hp := (number_le s (s.size + 1) p (-1) (by omega) (by omega)).1
 rw [← ha] at hp
 have hq : p ≤ b1.2 := by
  rw [hb]
  split
  ·have := (number_le s (s.size + 1) (a1.2 + 1) (-1) (by omega) (by omega)).1
   omega
  ·exact hp
 split at h
 ·cases h
 rename_i h1
 split at h
 ·cases h
 have h3 : Lx.here s b1.2 [92, 125] = true := by
  cases hh : Lx.here s b1.2 [92, 125] with
  | true => rfl
  | false => exact absurd (.inr hh) h1
 have h4 := here_le h3
 cases h
 simp at h4
 omega
set_option maxHeartbeats 8000000 in
set_option maxRecDepth 100000 in
theorem often_calls (W : World) (B base : Nat) (s : ByteArray) (chars fold : Bool) (x : Lx.St) (V : Value) (hst : ScSt W B base s chars fold x V) (c : Nat) (hc : c < 256) (e : Nat) (he1 : x.sat < e) (he2 : e ≤ s.size) :
  Calls Tryz.prog 146 #[.pointer (some ⟨B, 0, none⟩), .int .u8 c, .int .i64 e] W fun e' w' => Steps W w' e' B base s chars fold (Lx.often s x c e) := by
 have HG := Lib.hid (begins_calls W B base s chars fold x V hst)
 have HC := Lib.hid (fun (w2 : World) (hb : Below W.heap.size W w2) => (hst.sc.below hb).c3)
 have HP := Lib.hid (fun (w : World) (hb : Below W.heap.size W w) => lput_calls W w B base s chars fold x V hst hb 2 0)
 by_cases hg : Lx.begins x = true
 ·have HX := Lib.hid (show Lx.often s x c e = .error (38, (x.sat : Int)) by unfold Lx.often; rw [if_pos hg])
  go_enter Tryz.func146, Tryz.ntmps146
  go_wp2_with fail
  refine HG.out.mono ?_
  rw [hg]
  rintro e' w2 ⟨rfl, hb⟩
  have c3 := HC.out w2 hb
  have HB := Lib.hid hb
  clear hb hst
  go_wp2_with fail
  refine (fail_calls _ _ _).mono ?_
  rintro e w3 ⟨⟨g, rfl, hg'⟩, hb⟩
  exact ⟨rfl, Steps.err HX.out (Bad.up ⟨g, rfl, hg'⟩ HB.out) (Below.up HB.out hb)⟩
 ·have hg' : Lx.begins x = false := by simpa using hg
  by_cases h43 : c = 43
  ·subst h43
   go_enter Tryz.func146, Tryz.ntmps146
   go_wp2_with fail
   refine HG.out.mono ?_
   rw [hg']
   rintro e' w2 ⟨rfl, hb⟩
   have HX := Lib.hid (show Lx.often s x 43 e = .ok (Lx.put x ⟨2, 0, 0, 0, 1, -1, []⟩ e) by unfold Lx.often; rw [if_neg hg, if_pos rfl]; rfl)
   have HB := Lib.hid (hb.alloc (Nat.le_trans hb.size (Nat.le_refl _)) (.cells #[.int .i64 2, .int .i64 0, .int .i64 0, .int .i64 0, .int .i64 1, .int .i64 (-1), .slice none 0 0] 37))
   clear hb hst hg hg'
   go_wp2_with fail
   refine (HP.out _ HB.out 1 (-1) [] _ (Row.nil _ _).1 rfl (by simp) e he1 he2).mono ?_
   rintro e' w' ⟨rfl, V', h⟩
   go_wp2_with fail
   go_end0
   exact Steps.ok HX.out rfl ⟨V', h⟩
  by_cases h63 : c = 63
  ·subst h63
   go_enter Tryz.func146, Tryz.ntmps146
   go_wp2_with fail
   refine HG.out.mono ?_
   rw [hg']
   rintro e' w2 ⟨rfl, hb⟩
   have HX := Lib.hid (show Lx.often s x 63 e = .ok (Lx.put x ⟨2, 0, 0, 0, 0, 1, []⟩ e) by unfold Lx.often; rw [if_neg hg, if_neg h43, if_pos rfl]; rfl)
   have HB := Lib.hid (hb.alloc (Nat.le_trans hb.size (Nat.le_refl _)) (.cells #[.int .i64 2, .int .i64 0, .int .i64 0, .int .i64 0, .int .i64 0, .int .i64 1, .slice none 0 0] 37))
   clear hb hst hg hg' h43
   go_wp2_with fail
   refine (HP.out _ HB.out 0 1 [] _ (Row.nil _ _).1 rfl (by simp) e he1 he2).mono ?_
   rintro e' w' ⟨rfl, V', h⟩
   go_wp2_with fail
   go_end0
   exact Steps.ok HX.out rfl ⟨V', h⟩
  have b43 : ((c : Int) == 43) = false := by rw [beq_eq_false_iff_ne]; omega
  have b63 : ((c : Int) == 63) = false := by rw [beq_eq_false_iff_ne]; omega
  have HE : Hid (Lx.often s x c e = match Lx.interval s x.sat e with
   | .error e => .error e
   | .ok (a, b, e2) => .ok (Lx.put x { Lx.tok 2 with lo := a, hi := b } e2)) := Lib.hid (by unfold Lx.often; rw [if_neg hg, if_neg h43, if_neg h63]; rfl)
  have hle : e ≤ 4000 := by have := hst.ss; omega
  have hss := hst.ss
  have HI := Lib.hid (fun (w : World) (hb : Below W.heap.size W w) => interval_calls w B e x.sat s chars fold V (hst.sc.below hb) hss hle)
  have HL := Lib.hid (fun a b e2 h => interval_lim (s := s) (q := x.sat) (p := e) (a := a) (b := b) (e2 := e2) h)
  clear h43 h63
  go_enter Tryz.func146, Tryz.ntmps146
  go_wp2_with fail
  refine HG.out.mono ?_
  rw [hg']
  rintro e' w2 ⟨rfl, hb⟩
  have HB := Lib.hid (hb.alloc (Nat.le_trans hb.size (Nat.le_refl _)) (.cells #[.int .i64 2, .int .i64 0, .int .i64 0, .int .i64 0, .int .i64 0, .int .i64 0, .slice none 0 0] 37))
  have HB2 := Lib.hid hb
  clear hb hst hg hg'
  go_wp2_with fail
  refine (HI.out _ HB.out).mono ?_
  rintro e' w3 ⟨hb3, ht⟩
  cases hI : Lx.interval s x.sat e with
  | error y =>
   rw [hI] at ht
   have HX := Lib.hid (show Lx.often s x c e = .error y by rw [HE.out, hI])
   obtain ⟨g, rfl, hg⟩ := ht
   exact ⟨rfl, Steps.err HX.out (Bad.up ⟨g, rfl, hg⟩ HB.out) (Below.up HB.out hb3)⟩
  | ok y =>
   rw [hI] at ht
   obtain ⟨a, b, e2⟩ := y
   obtain ⟨rfl, rfl⟩ := ht
   have HX := Lib.hid (show Lx.often s x c e = .ok (Lx.put x ⟨2, 0, 0, 0, a, b, []⟩ e2) by rw [HE.out, hI]; rfl)
   have hlim := HL.out a b e2 hI
   have HB3 := Lib.hid (HB2.out.alloc (Nat.le_trans HB2.out.size (Nat.le_refl _)) (.cells #[.int .i64 2, .int .i64 0, .int .i64 0, .int .i64 0, .int .i64 a, .int .i64 b, .slice none 0 0] 37))
   clear hb3 HE HI HL hI
   go_wp2_with fail
   refine (HP.out _ HB3.out a b [] _ (Row.nil _ _).1 rfl (by simp) e2 (by omega) (by omega)).mono ?_
   rintro e' w' ⟨rfl, V', h⟩
   go_wp2_with fail
   go_end0
   exact Steps.ok HX.out rfl ⟨V', h⟩
end Go.Proofs.YtamhkdlcoghdbaaGreatDoor.PCls
