/- Out of Lk (wip/tools/prune2.py): the declarations alone that the texts of the trees name. -/
import Derived.Test.YtamhkdlcoghdbaaGreatDoorVMQLi
namespace Go.Proofs.YtamhkdlcoghdbaaGreatDoor.PCls
open Go.RowKit Go.Shelf Go.Proofs.YtamhkdlcoghdbaaGreatDoorW.PrintWords Go.Proofs.YtamhkdlcoghdbaaGreatDoorW.PrintLast Go.Proofs.YtamhkdlcoghdbaaGreatDoorW.PrintMore
set_option linter.unusedVariables false
set_option linter.unusedSimpArgs false
theorem named_ne (n : List UInt8) : ∀ l, Cls.named n = some l → l ≠ [] := by
 unfold Cls.named
 repeat refine ite_all (fun o : Option (List S64) => ∀ l, o = some l → l ≠ []) (by intro l h; obtain rfl := Option.some.inj h; simp) ?_
 intro l h
 cases h
theorem namedOf_ne {s : ByteArray} {chars : Bool} {x0 p : Nat} {sign : UInt8} {i : It} (h : Lx.named clC s chars x0 p sign = .ok i) (hp : p + 2 ≤ s.size) : i.l ≠ [] := by
 by_cases h58 : sign = 58
 ·subst h58
  rw [named58_eq clC s chars x0 p hp] at h
  split at h
  ·cases h
  ·split at h
   ·rename_i hs
    cases h
    simp only [clC, Option.isSome_iff_exists] at hs ⊢
    obtain ⟨l, hl⟩ := hs
    rw [hl]
    exact named_ne _ l hl
   ·cases h
 ·rw [named_el_eq clC s chars x0 p sign h58] at h
  split at h
  ·cases h
  split at h
  ·cases h
  ·cases h; simp
theorem item_ne {s : ByteArray} {chars : Bool} {x0 p : Nat} {any : Bool} {i : It} (h : Lx.item clC s chars x0 p any = .ok i) : i.l ≠ [] := by
 rw [item_eq] at h
 split at h
 ·rename_i h1; exact namedOf_ne h (here_le h1)
 split at h
 ·rename_i h1; exact namedOf_ne h (here_le h1)
 split at h
 ·rename_i h1; exact namedOf_ne h (here_le h1)
 unfold itemC at h
 split at h
 ·cases h
 split at h
 ·cases h
 split at h
 ·split at h <;> cases h
 ·cases h; simp
theorem span_ok {s : ByteArray} {chars : Bool} {x0 p : Nat} {a i : It} (h : Lx.span clC s chars x0 a p = .ok i) : ItOk s p i ∧ i.l ≠ [] := by
 rw [span_eq] at h
 split at h
 ·cases h
 split at h
 ·cases h
 cases hr : Lx.item clC s chars x0 p true with
 | error y => rw [hr] at h; cases h
 | ok b =>
  rw [hr] at h
  simp only at h
  have hb := item_ok hr
  split at h
  ·cases h
  ·cases h
   exact ⟨⟨hb.c0, hb.c1, hb.n, by simp⟩, by simp⟩
theorem Row.news {W : World} {base : Nat} {v : Value} {r : List S64} (h : Row W base v r) (hne : r ≠ []) : ∃ ad c, v = .slice (some ad) r.length c ∧ ∀ j u, (rowOf r)[j]? = some u → W.cell? (ad.add j) = some u := by
 obtain ⟨A, c, rfl, hc, hC⟩ := Kd.R_reads h.R
 cases A with
 | none => exact absurd (nil_of_C hC) hne
 | some ad => exact ⟨ad, c, rfl, cells_of_C hC⟩
theorem Row.cellsOf {W : World} {base n c : Nat} {ad : Addr} {r : List S64} (h : Row W base (.slice (some ad) n c) r) : ∀ j u, (rowOf r)[j]? = some u → W.cell? (ad.add j) = some u := by
 obtain ⟨A, c', e, hc, hC⟩ := Kd.R_reads h.R
 cases e
 exact cells_of_C hC
theorem part_eq (s : ByteArray) (chars : Bool) (x0 p : Nat) (b : Bool) : Lx.part clC s chars x0 p b = match Lx.item clC s chars x0 p b with
  | .error e => .error e
  | .ok i => if i.isEnd = true ∧ Lx.here s i.nx.toNat [45] = true ∧ Lx.here s i.nx.toNat [45, 93] = false then Lx.span clC s chars x0 i (i.nx.toNat + 1) else .ok i := rfl
theorem parts_eq (s : ByteArray) (chars : Bool) (x0 k p : Nat) (b : Bool) (l : List S64) : Lx.parts clC s chars x0 (k + 1) p b l = if b = false ∧ Lx.here s p [93] = true then .ok (l, p) else match Lx.part clC s chars x0 p b with
  | .error e => .error e
  | .ok i => Lx.parts clC s chars x0 k i.nx.toNat false (l ++ i.l) := rfl
set_option maxHeartbeats 4000000 in
set_option maxRecDepth 100000 in
theorem bracket_calls (W : World) (B base : Nat) (s : ByteArray) (chars fold : Bool) (x : Lx.St) (V : Value) (m : Int) (hst : ScSt W B base s chars fold x V) (hx : x.sat < s.size) (hm : W.cell? ⟨2, 0, none⟩ = some (.int .i64 m)) (h2 : 2 < W.heap.size) (hT : Lib.Utf8Tabs 0 1 W) :
  Calls Tryz.prog 95 #[.pointer (some ⟨B, 0, none⟩)] W fun e' w' => Steps W w' e' B base s chars fold (Lx.bracket clC s chars fold x) := by
 obtain ⟨i0, hi, hz0, hz1, hz2⟩ := info64'
 have c0 := hst.sc.c0
 have c3 := hst.sc.c3
 have hs := hst.ss
 have HSC := Lib.hid (fun (w : World) (hb : Below W.heap.size W w) => hst.sc.below hb)
 have HM := Lib.hid (fun (w : World) (hb : Below W.heap.size W w) => (hb.cell (p := ⟨2, 0, none⟩) h2).trans hm)
 have HM2 := Lib.hid (fun (w : World) (hb : Below W.heap.size W w) => Nat.lt_of_lt_of_le h2 hb.size)
 have HT := Lib.hid hT
 have HST := Lib.hid hst
 have HE : Hid (Lx.bracket clC s chars fold x = match Lx.parts clC s chars x.sat (s.size + 2) (x.sat + 1 + (if Lx.here s (x.sat + 1) [94] = true then 1 else 0)) true [] with
  | .error e => .error e
  | .ok (l, p) => .ok (Lx.put x { Lx.tok 1 with r := Lx.close clC chars fold (Lx.here s (x.sat + 1) [94]) l } (p + 1))) := Lib.hid rfl
 have HH0 := Lib.hid (here_calls W B (x.sat + 1) s ⟨#[94]⟩ c0 (by omega))
 generalize hN : Lx.here s (x.sat + 1) [94] = bN at HE
 rw [show Lx.here s (x.sat + 1) (⟨#[94]⟩ : ByteArray).data.toList = bN from hN] at HH0
 clear hst hm h2 hT hN
 go_enter Tryz.func95, Tryz.ntmps95
 go_wp2_with fail
 refine HH0.out.mono ?_
 rintro e w ⟨rfl, hw⟩
 subst w
 obtain ⟨p0, hp0⟩ : ∃ p0 : Nat, p0 = x.sat + 1 + (if bN = true then 1 else 0) := ⟨_, rfl⟩
 rw [← hp0] at HE
 have hq0 : x.sat < p0 ∧ p0 ≤ s.size + 1 ∧ 1 ≤ p0 := by cases bN <;> simp at hp0 <;> omega
 generalize hR : Lx.parts clC s chars x.sat (s.size + 2) p0 true [] = R at HE
 have HR := Lib.hid hR.symm
 clear hR HH0
 cases bN with
 | false =>
  have hpv := hp0
  simp only [Bool.false_eq_true, if_false, if_true] at hpv
  have HPV := Lib.hid hpv
  clear hp0 hpv
  go_wp2_with fail
  go_loopg [2, 4, 5] (s.size + 3 - p0) (fun gg sa sl sf wr => ∃ (p k : Nat) (b : Bool) (l : List S64), sa = .int .i64 p ∧ sf = .bool b ∧ p ≤ s.size + 2 ∧ s.size + 3 ≤ p + k ∧ s.size + 3 - p ≤ gg ∧ l.length ≤ 10 * p ∧ x.sat < p ∧ Hid (R = Lx.parts clC s chars x.sat k p b l) ∧ Aside0 (Row wr W.heap.size sl l) ∧ Aside0 (Below W.heap.size W wr))
  case atStart => exact ⟨p0, s.size + 2, true, [], by have := HPV.out; rw [this]; go_num, rfl, by omega, by omega, Nat.le_refl _, by simp, hq0.1, HR, ⟨Row.nil _ _⟩, ⟨Below.refl _ _⟩⟩
  case round =>
   obtain ⟨p, k, b, l, rfl, rfl, hpl, hk, hgg, hll, hxp, HP, HO, HBL⟩ := hrel
   obtain ⟨k, rfl⟩ : ∃ j, k = j + 1 := ⟨k - 1, by omega⟩
   cases b with
   | true =>
    have HX := Lib.hid (show R = match Lx.part clC s chars x.sat p true with
     | .error e => .error e
     | .ok i => Lx.parts clC s chars x.sat k i.nx.toNat false (l ++ i.l) by rw [HP.out, parts_eq]; exact if_neg (by simp))
    have HI := Lib.hid (item_calls wr B p x.sat s chars fold true V m (HSC.out wr HBL.out) hs (by omega) (HM.out wr HBL.out) (HM2.out wr HBL.out) (tabs_below HT.out HBL.out))
    clear HP
    go_wp2_with fail
    refine HI.out.mono ?_
    rintro e w3 ⟨hb, ht⟩
    clear HI
    cases hr : Lx.item clC s chars x.sat p true with
    | error y =>
     rw [hr] at ht
     obtain ⟨g, rfl, hg⟩ := ht
     have HY := Lib.hid (show Lx.bracket clC s chars fold x = .error y by rw [HE.out, HX.out, part_eq, hr])
     exact ⟨rfl, Steps.err HY.out (Bad.up ⟨g, rfl, hg⟩ HBL.out) (Below.up HBL.out hb)⟩
    | ok i =>
     rw [hr] at ht
     obtain ⟨v, rfl, hrow⟩ := ht
     obtain ⟨ad, n, hv, hnews⟩ := hrow.news (item_ne hr)
     subst hv
     have hok := item_ok hr
     have hXX := HX.out.trans (by rw [part_eq, hr])
     simp only at hXX
     obtain ⟨ie, ic, il, ia, ix⟩ := i
     obtain ⟨nx, hnx, hnx1, hnx2⟩ := hok.n
     simp only at hnx hnews hrow hXX
     subst hnx
     simp only [Int.toNat_natCast] at hXX
     have hil : il.length ≤ 10 := hok.l
     have HC := Lib.hid (And.intro hok.c0 hok.c1)
     simp only at HC
     generalize hh1 : Lx.here s nx [45] = b1 at hXX
     generalize hh2 : Lx.here s nx [45, 93] = b2 at hXX
     have hb3 := Below.up HBL.out hb
     have hb4 := hb3.alloc hb3.size (.cells #[.bool ie, .int .i64 ic, .slice (some ad) il.length n, .int .i64 ia, .int .i64 nx] 189)
     have HH1 := Lib.hid (here_calls (w3.alloc (.cells #[.bool ie, .int .i64 ic, .slice (some ad) il.length n, .int .i64 ia, .int .i64 nx] 189)) B nx s ⟨#[45]⟩ (HSC.out _ hb4).c0 (by omega))
     have HH2 := Lib.hid (here_calls (w3.alloc (.cells #[.bool ie, .int .i64 ic, .slice (some ad) il.length n, .int .i64 ia, .int .i64 nx] 189)) B nx s ⟨#[45, 93]⟩ (HSC.out _ hb4).c0 (by omega))
     rw [show Lx.here s nx (⟨#[45]⟩ : ByteArray).data.toList = b1 from hh1] at HH1
     rw [show Lx.here s nx (⟨#[45, 93]⟩ : ByteArray).data.toList = b2 from hh2] at HH2
     have HXX := Lib.hid hXX
     have HB4 := Lib.hid hb4
     have hown3 := ownMove HO.out.1 (fun k hk => hb.block k (ownLt HO.out.1 k hk).2)
     have HOW := Lib.hid (hown3.alloc (.cells #[.bool ie, .int .i64 ic, .slice (some ad) il.length n, .int .i64 ia, .int .i64 nx] 189))
     have HNW := Lib.hid (And.intro hnews hrow)
     have HLL := Lib.hid (And.intro hll HO.out.2)
     have HCW := Lib.hid (hrow.below ((Below.refl _ w3).alloc (Nat.le_refl _) (.cells #[.bool ie, .int .i64 ic, .slice (some ad) il.length n, .int .i64 ia, .int .i64 nx] 189))).cellsOf
     unfold itV
     have hsz3 : W.heap.size ≤ w3.heap.size := hb3.size
     have HOLT := Lib.hid (fun k hk => (ownLt hown3 k hk).2)
     clear hh1 hh2 hb3 hb4 hb hnews hrow hok hXX hr HX HO hown3
     obtain ⟨A, c6, rfl⟩ := own_slice HOW.out
     have hcase : ie = false ∨ (ie = true ∧ b1 = false) ∨ (ie = true ∧ b1 = true ∧ b2 = true) ∨ (ie = true ∧ b1 = true ∧ b2 = false) := by
      cases ie <;> cases b1 <;> cases b2 <;> simp
     rcases hcase with rfl | ⟨rfl, rfl⟩ | ⟨rfl, rfl, rfl⟩ | ⟨rfl, rfl, rfl⟩
     ·have HZ := Lib.hid (show R = Lx.parts clC s chars x.sat k nx false (l ++ il) by rw [HXX.out, if_neg (by simp)]; rfl)
      clear HXX HH1 HH2
      go_wp2_with (at_builtin; refine wpList_append_own _ rfl _ _ 35 rfl W.heap.size 39 i0 _ 2 16 Tryz.underlying35 hi hz0 hz1 hz2 rfl (by decide) _ _ _ rfl HOW.out ad il.length n (rowOf il) rfl (rowOf_length il) HCW.out (one_rowOf il) ?qc4 ?qc5 HB4.out.size ?_)
      case qc4 => have := HLL.out.1; unfold maxLen; omega
      case qc5 => have := HLL.out.1; omega
      intro v' w5 hown hgrow hnil
      have HRW := Lib.hid (show Row w5 W.heap.size v' (l ++ il) from ⟨by rw [rowOf_append, List.length_append]; exact hown, (inR_append _ _).2 ⟨HLL.out.2.1, HNW.out.2.2.1⟩, by have := HLL.out.1; rw [List.length_append]; omega⟩)
      have HBW := Lib.hid (HB4.out.grown hgrow HB4.out.size (fun k hk => (HOW.out.lt k hk).1))
      clear hown hgrow hnil HOW HCW HNW
      go_wp2
      go_roundg (s.size + 3 - nx)
      case measure => omega
      case rel => exact ⟨nx, k, false, l ++ il, rfl, rfl, by omega, by omega, by omega, by have := HLL.out.1; rw [List.length_append]; omega, by omega, HZ, ⟨HRW.out⟩, ⟨HBW.out⟩⟩
     ·have HZ := Lib.hid (show R = Lx.parts clC s chars x.sat k nx false (l ++ il) by rw [HXX.out, if_neg (by simp)]; rfl)
      clear HXX HH2
      go_wp2_with fail
      refine HH1.out.mono ?_
      rintro e w ⟨rfl, hw⟩
      subst w
      go_wp2_with (at_builtin; refine wpList_append_own _ rfl _ _ 35 rfl W.heap.size 39 i0 _ 2 16 Tryz.underlying35 hi hz0 hz1 hz2 rfl (by decide) _ _ _ rfl HOW.out ad il.length n (rowOf il) rfl (rowOf_length il) HCW.out (one_rowOf il) ?qc4 ?qc5 HB4.out.size ?_)
      case qc4 => have := HLL.out.1; unfold maxLen; omega
      case qc5 => have := HLL.out.1; omega
      intro v' w5 hown hgrow hnil
      have HRW := Lib.hid (show Row w5 W.heap.size v' (l ++ il) from ⟨by rw [rowOf_append, List.length_append]; exact hown, (inR_append _ _).2 ⟨HLL.out.2.1, HNW.out.2.2.1⟩, by have := HLL.out.1; rw [List.length_append]; omega⟩)
      have HBW := Lib.hid (HB4.out.grown hgrow HB4.out.size (fun k hk => (HOW.out.lt k hk).1))
      clear hown hgrow hnil HOW HCW HNW
      go_wp2
      go_roundg (s.size + 3 - nx)
      case measure => omega
      case rel => exact ⟨nx, k, false, l ++ il, rfl, rfl, by omega, by omega, by omega, by have := HLL.out.1; rw [List.length_append]; omega, by omega, HZ, ⟨HRW.out⟩, ⟨HBW.out⟩⟩
     ·have HZ := Lib.hid (show R = Lx.parts clC s chars x.sat k nx false (l ++ il) by rw [HXX.out, if_neg (by simp)]; rfl)
      clear HXX
      go_wp2_with fail
      refine HH1.out.mono ?_
      rintro e w ⟨rfl, hw⟩
      subst w
      go_wp2_with fail
      refine HH2.out.mono ?_
      rintro e w ⟨rfl, hw⟩
      subst w
      go_wp2_with (at_builtin; refine wpList_append_own _ rfl _ _ 35 rfl W.heap.size 39 i0 _ 2 16 Tryz.underlying35 hi hz0 hz1 hz2 rfl (by decide) _ _ _ rfl HOW.out ad il.length n (rowOf il) rfl (rowOf_length il) HCW.out (one_rowOf il) ?qc4 ?qc5 HB4.out.size ?_)
      case qc4 => have := HLL.out.1; unfold maxLen; omega
      case qc5 => have := HLL.out.1; omega
      intro v' w5 hown hgrow hnil
      have HRW := Lib.hid (show Row w5 W.heap.size v' (l ++ il) from ⟨by rw [rowOf_append, List.length_append]; exact hown, (inR_append _ _).2 ⟨HLL.out.2.1, HNW.out.2.2.1⟩, by have := HLL.out.1; rw [List.length_append]; omega⟩)
      have HBW := Lib.hid (HB4.out.grown hgrow HB4.out.size (fun k hk => (HOW.out.lt k hk).1))
      clear hown hgrow hnil HOW HCW HNW
      go_wp2
      go_roundg (s.size + 3 - nx)
      case measure => omega
      case rel => exact ⟨nx, k, false, l ++ il, rfl, rfl, by omega, by omega, by omega, by have := HLL.out.1; rw [List.length_append]; omega, by omega, HZ, ⟨HRW.out⟩, ⟨HBW.out⟩⟩
     ·have HZ := Lib.hid (show R = match Lx.span clC s chars x.sat ⟨true, ic, il, ia, nx⟩ (nx + 1) with
       | .error e => .error e
       | .ok i => Lx.parts clC s chars x.sat k i.nx.toNat false (l ++ i.l) by rw [HXX.out, if_pos (by simp)])
      clear HXX
      go_wp2_with fail
      refine HH1.out.mono ?_
      rintro e w ⟨rfl, hw⟩
      subst w
      go_wp2_with fail
      refine HH2.out.mono ?_
      rintro e w ⟨rfl, hw⟩
      subst w
      have HS := Lib.hid (span_calls (w3.alloc (.cells #[.bool true, .int .i64 ic, .slice (some ad) il.length n, .int .i64 ia, .int .i64 nx] 189)) B (nx + 1) x.sat s chars fold V m (HSC.out _ HB4.out) hs (by omega) (HM.out _ HB4.out) (HM2.out _ HB4.out) (tabs_below HT.out HB4.out) ⟨true, ic, il, ia, nx⟩ (some ad) il.length n HC.out)
      unfold itV at HS
      simp only at HS
      clear HH1 HH2 HNW
      go_wp2_with fail
      refine HS.out.mono ?_
      rintro e w5 ⟨hb5, ht⟩
      clear HS
      cases hr : Lx.span clC s chars x.sat ⟨true, ic, il, ia, nx⟩ (nx + 1) with
      | error y =>
       rw [hr] at ht
       obtain ⟨g, rfl, hg⟩ := ht
       have HY := Lib.hid (show Lx.bracket clC s chars fold x = .error y by rw [HE.out, HZ.out, hr])
       exact ⟨rfl, Steps.err HY.out (Bad.up ⟨g, rfl, hg⟩ HB4.out) (Below.up HB4.out hb5)⟩
      | ok i =>
       rw [hr] at ht
       obtain ⟨v, rfl, hrow⟩ := ht
       obtain ⟨hok, hne⟩ := span_ok hr
       obtain ⟨ad', n', hv, _⟩ := hrow.news hne
       subst hv
       have hZZ := HZ.out.trans (by rw [hr])
       obtain ⟨je, jc, jl, ja, jx⟩ := i
       obtain ⟨ny, hny, hny1, hny2⟩ := hok.n
       simp only at hny hrow hZZ
       subst hny
       simp only [Int.toNat_natCast] at hZZ
       have hjl : jl.length ≤ 10 := hok.l
       have HZZ := Lib.hid hZZ
       have hgz := heap_alloc_new w3 (.cells #[.bool true, .int .i64 ic, .slice (some ad) il.length n, .int .i64 ia, .int .i64 nx] 189)
       have hgw := (hb5.block _ (Array.getElem?_eq_some_iff.1 hgz).1).trans hgz
       have hf : ∀ o, w5.frozen? ⟨w3.heap.size, o, none⟩ = false := fun o => by simp only [World.frozen?, hgw]; simp
       have k0 := lk_cell (i := 0) hgw rfl
       have k1 := lk_cell (i := 1) hgw rfl
       have k2 := lk_cell (i := 2) hgw rfl
       have k3 := lk_cell (i := 3) hgw rfl
       have k4 := lk_cell (i := 4) hgw rfl
       have hro := set5_row hrow (row_ge hrow (Array.getElem?_eq_some_iff.1 hgz).1) (.bool je) (.int .i64 jc) (.slice (some ad') jl.length n') (.int .i64 ja) (.int .i64 ny)
       have HCE := Lib.hid hro.cellsOf
       have hB5 := set5_below (Below.up HB4.out hb5) hsz3 (.bool je) (.int .i64 jc) (.slice (some ad') jl.length n') (.int .i64 ja) (.int .i64 ny)
       have HB5 := Lib.hid hB5
       have hO5 := ownMove (ownMove HOW.out (fun k hk => hb5.block k (ownLt HOW.out k hk).2)) (B := set5 w5 w3.heap.size (.bool je) (.int .i64 jc) (.slice (some ad') jl.length n') (.int .i64 ja) (.int .i64 ny)) (fun k hk => set5_other (by have := HOLT.out k hk; omega) _ _ _ _ _)
       have HO5 := Lib.hid hO5
       have HIN := Lib.hid hrow.2.1
       clear hZZ hok hne hgz hgw hro hB5 hO5 HOW HOLT hrow hb5 HZ hr
       unfold itV
       go_wp2_with (at_builtin; refine wpList_append_own _ rfl _ _ 35 rfl W.heap.size 39 i0 _ 2 16 Tryz.underlying35 hi hz0 hz1 hz2 rfl (by decide) _ _ _ rfl HO5.out ad' jl.length n' (rowOf jl) rfl (rowOf_length jl) HCE.out (one_rowOf jl) ?qd4 ?qd5 HB5.out.size ?_)
       case qd4 => have := HLL.out.1; unfold maxLen; omega
       case qd5 => have := HLL.out.1; omega
       intro v' w6 hown hgrow hnil
       have HRW := Lib.hid (show Row w6 W.heap.size v' (l ++ jl) from ⟨by rw [rowOf_append, List.length_append]; exact hown, (inR_append _ _).2 ⟨HLL.out.2.1, HIN.out⟩, by have := HLL.out.1; rw [List.length_append]; omega⟩)
       have HBW := Lib.hid (HB5.out.grown hgrow HB5.out.size (fun k hk => (HO5.out.lt k hk).1))
       clear hown hgrow hnil HO5 HCE HB5 HB4
       go_wp2
       go_roundg (s.size + 3 - ny)
       case measure => omega
       case rel => exact ⟨ny, k, false, l ++ jl, rfl, rfl, by omega, by omega, by omega, by have := HLL.out.1; rw [List.length_append]; omega, by omega, HZZ, ⟨HRW.out⟩, ⟨HBW.out⟩⟩
   | false =>
    have HH := Lib.hid (here_calls wr B p s ⟨#[93]⟩ (HSC.out wr HBL.out).c0 (by omega))
    generalize hb : Lx.here s p [93] = bb
    rw [show Lx.here s p (⟨#[93]⟩ : ByteArray).data.toList = bb from hb] at HH
    go_wp2_with fail
    refine HH.out.mono ?_
    rintro e w ⟨rfl, hw⟩
    subst w
    cases bb with
    | true =>
     have HX := Lib.hid (show Lx.bracket clC s chars fold x = .ok (Lx.put x ⟨1, 0, 0, 0, 0, 0, Lx.close clC chars fold false l⟩ (p + 1)) by rw [HE.out, HP.out, parts_eq, if_pos ⟨rfl, hb⟩]; rfl)
     have hpe := here_le hb
     simp only [List.length_cons, List.length_nil] at hpe
     have HNO := Lib.hid (norm_row wr W.heap.size _ l chars HO.out)
     have c1 := (HSC.out wr HBL.out).c1
     clear HP HE HR hb
     go_wp2_with fail
     refine HNO.out.mono ?_
     rintro e w3 ⟨v3, rfl, hr3, hb3⟩
     have HB3 := Lib.hid (Below.up HBL.out hb3)
     have HR3 := Lib.hid (hr3.lower HBL.out.size)
     have c2 := (HSC.out w3 HB3.out).c2
     have c4 := (HSC.out w3 HB3.out).c1
     clear hr3 hb3 HNO HO HBL c0 c1 c3
     cases fold with
     | true =>
      have HFO := Lib.hid (fold_row w3 W.heap.size _ _ HR3.out (by have := norm_length l chars; omega))
      go_wp2_with fail
      refine HFO.out.mono ?_
      rintro e w4 ⟨v4, rfl, hr4, hb4⟩
      have HB4 := Lib.hid (Below.up HB3.out hb4)
      have HR4 := Lib.hid (hr4.lower HB3.out.size)
      have c6 := (HSC.out w4 HB4.out).c1
      clear hr4 hb4 HFO HR3 HB3 c2 c4
      obtain ⟨A9, k9, rfl⟩ := HR4.out.form
      have HPU := Lib.hid (lput_calls W w4 B base s chars true x V HST.out HB4.out 1 0 0 0 _ _ HR4.out.1 HR4.out.2.1 (by have := HR4.out.2.2; omega) (p + 1) (by omega) (by omega))
      go_wp2_with fail
      refine HPU.out.mono ?_
      rintro e' w' ⟨rfl, V', h⟩
      go_wp2_with fail
      go_end0
      exact Steps.ok HX.out rfl ⟨V', h⟩
     | false =>
      obtain ⟨A9, k9, rfl⟩ := HR3.out.form
      have HPU := Lib.hid (lput_calls W w3 B base s chars false x V HST.out HB3.out 1 0 0 0 _ _ HR3.out.1 HR3.out.2.1 (by have := HR3.out.2.2; omega) (p + 1) (by omega) (by omega))
      go_wp2_with fail
      refine HPU.out.mono ?_
      rintro e' w' ⟨rfl, V', h⟩
      go_wp2_with fail
      go_end0
      exact Steps.ok HX.out rfl ⟨V', h⟩
    | false =>
     have HX := Lib.hid (show R = match Lx.part clC s chars x.sat p false with
      | .error e => .error e
      | .ok i => Lx.parts clC s chars x.sat k i.nx.toNat false (l ++ i.l) by rw [HP.out, parts_eq]; exact if_neg (by rw [hb]; decide))
     have HI := Lib.hid (item_calls wr B p x.sat s chars fold false V m (HSC.out wr HBL.out) hs (by omega) (HM.out wr HBL.out) (HM2.out wr HBL.out) (tabs_below HT.out HBL.out))
     clear HP
     go_wp2_with fail
     refine HI.out.mono ?_
     rintro e w3 ⟨hb, ht⟩
     clear HI
     cases hr : Lx.item clC s chars x.sat p false with
     | error y =>
      rw [hr] at ht
      obtain ⟨g, rfl, hg⟩ := ht
      have HY := Lib.hid (show Lx.bracket clC s chars fold x = .error y by rw [HE.out, HX.out, part_eq, hr])
      exact ⟨rfl, Steps.err HY.out (Bad.up ⟨g, rfl, hg⟩ HBL.out) (Below.up HBL.out hb)⟩
     | ok i =>
      rw [hr] at ht
      obtain ⟨v, rfl, hrow⟩ := ht
      obtain ⟨ad, n, hv, hnews⟩ := hrow.news (item_ne hr)
      subst hv
      have hok := item_ok hr
      have hXX := HX.out.trans (by rw [part_eq, hr])
      simp only at hXX
      obtain ⟨ie, ic, il, ia, ix⟩ := i
      obtain ⟨nx, hnx, hnx1, hnx2⟩ := hok.n
      simp only at hnx hnews hrow hXX
      subst hnx
      simp only [Int.toNat_natCast] at hXX
      have hil : il.length ≤ 10 := hok.l
      have HC := Lib.hid (And.intro hok.c0 hok.c1)
      simp only at HC
      generalize hh1 : Lx.here s nx [45] = b1 at hXX
      generalize hh2 : Lx.here s nx [45, 93] = b2 at hXX
      have hb3 := Below.up HBL.out hb
      have hb4 := hb3.alloc hb3.size (.cells #[.bool ie, .int .i64 ic, .slice (some ad) il.length n, .int .i64 ia, .int .i64 nx] 189)
      have HH1 := Lib.hid (here_calls (w3.alloc (.cells #[.bool ie, .int .i64 ic, .slice (some ad) il.length n, .int .i64 ia, .int .i64 nx] 189)) B nx s ⟨#[45]⟩ (HSC.out _ hb4).c0 (by omega))
      have HH2 := Lib.hid (here_calls (w3.alloc (.cells #[.bool ie, .int .i64 ic, .slice (some ad) il.length n, .int .i64 ia, .int .i64 nx] 189)) B nx s ⟨#[45, 93]⟩ (HSC.out _ hb4).c0 (by omega))
      rw [show Lx.here s nx (⟨#[45]⟩ : ByteArray).data.toList = b1 from hh1] at HH1
      rw [show Lx.here s nx (⟨#[45, 93]⟩ : ByteArray).data.toList = b2 from hh2] at HH2
      have HXX := Lib.hid hXX
      have HB4 := Lib.hid hb4
      have hown3 := ownMove HO.out.1 (fun k hk => hb.block k (ownLt HO.out.1 k hk).2)
      have HOW := Lib.hid (hown3.alloc (.cells #[.bool ie, .int .i64 ic, .slice (some ad) il.length n, .int .i64 ia, .int .i64 nx] 189))
      have HNW := Lib.hid (And.intro hnews hrow)
      have HLL := Lib.hid (And.intro hll HO.out.2)
      have HCW := Lib.hid (hrow.below ((Below.refl _ w3).alloc (Nat.le_refl _) (.cells #[.bool ie, .int .i64 ic, .slice (some ad) il.length n, .int .i64 ia, .int .i64 nx] 189))).cellsOf
      unfold itV
      have hsz3 : W.heap.size ≤ w3.heap.size := hb3.size
      have HOLT := Lib.hid (fun k hk => (ownLt hown3 k hk).2)
      clear hh1 hh2 hb3 hb4 hb hnews hrow hok hXX hr HX HO hown3
      obtain ⟨A, c6, rfl⟩ := own_slice HOW.out
      have hcase : ie = false ∨ (ie = true ∧ b1 = false) ∨ (ie = true ∧ b1 = true ∧ b2 = true) ∨ (ie = true ∧ b1 = true ∧ b2 = false) := by
       cases ie <;> cases b1 <;> cases b2 <;> simp
      rcases hcase with rfl | ⟨rfl, rfl⟩ | ⟨rfl, rfl, rfl⟩ | ⟨rfl, rfl, rfl⟩
      ·have HZ := Lib.hid (show R = Lx.parts clC s chars x.sat k nx false (l ++ il) by rw [HXX.out, if_neg (by simp)]; rfl)
       clear HXX HH1 HH2
       go_wp2_with (at_builtin; refine wpList_append_own _ rfl _ _ 35 rfl W.heap.size 39 i0 _ 2 16 Tryz.underlying35 hi hz0 hz1 hz2 rfl (by decide) _ _ _ rfl HOW.out ad il.length n (rowOf il) rfl (rowOf_length il) HCW.out (one_rowOf il) ?qc4 ?qc5 HB4.out.size ?_)
       case qc4 => have := HLL.out.1; unfold maxLen; omega
       case qc5 => have := HLL.out.1; omega
       intro v' w5 hown hgrow hnil
       have HRW := Lib.hid (show Row w5 W.heap.size v' (l ++ il) from ⟨by rw [rowOf_append, List.length_append]; exact hown, (inR_append _ _).2 ⟨HLL.out.2.1, HNW.out.2.2.1⟩, by have := HLL.out.1; rw [List.length_append]; omega⟩)
       have HBW := Lib.hid (HB4.out.grown hgrow HB4.out.size (fun k hk => (HOW.out.lt k hk).1))
       clear hown hgrow hnil HOW HCW HNW
       go_wp2
       go_roundg (s.size + 3 - nx)
       case measure => omega
       case rel => exact ⟨nx, k, false, l ++ il, rfl, rfl, by omega, by omega, by omega, by have := HLL.out.1; rw [List.length_append]; omega, by omega, HZ, ⟨HRW.out⟩, ⟨HBW.out⟩⟩
      ·have HZ := Lib.hid (show R = Lx.parts clC s chars x.sat k nx false (l ++ il) by rw [HXX.out, if_neg (by simp)]; rfl)
       clear HXX HH2
       go_wp2_with fail
       refine HH1.out.mono ?_
       rintro e w ⟨rfl, hw⟩
       subst w
       go_wp2_with (at_builtin; refine wpList_append_own _ rfl _ _ 35 rfl W.heap.size 39 i0 _ 2 16 Tryz.underlying35 hi hz0 hz1 hz2 rfl (by decide) _ _ _ rfl HOW.out ad il.length n (rowOf il) rfl (rowOf_length il) HCW.out (one_rowOf il) ?qc4 ?qc5 HB4.out.size ?_)
       case qc4 => have := HLL.out.1; unfold maxLen; omega
       case qc5 => have := HLL.out.1; omega
       intro v' w5 hown hgrow hnil
       have HRW := Lib.hid (show Row w5 W.heap.size v' (l ++ il) from ⟨by rw [rowOf_append, List.length_append]; exact hown, (inR_append _ _).2 ⟨HLL.out.2.1, HNW.out.2.2.1⟩, by have := HLL.out.1; rw [List.length_append]; omega⟩)
       have HBW := Lib.hid (HB4.out.grown hgrow HB4.out.size (fun k hk => (HOW.out.lt k hk).1))
       clear hown hgrow hnil HOW HCW HNW
       go_wp2
       go_roundg (s.size + 3 - nx)
       case measure => omega
       case rel => exact ⟨nx, k, false, l ++ il, rfl, rfl, by omega, by omega, by omega, by have := HLL.out.1; rw [List.length_append]; omega, by omega, HZ, ⟨HRW.out⟩, ⟨HBW.out⟩⟩
      ·have HZ := Lib.hid (show R = Lx.parts clC s chars x.sat k nx false (l ++ il) by rw [HXX.out, if_neg (by simp)]; rfl)
       clear HXX
       go_wp2_with fail
       refine HH1.out.mono ?_
       rintro e w ⟨rfl, hw⟩
       subst w
       go_wp2_with fail
       refine HH2.out.mono ?_
       rintro e w ⟨rfl, hw⟩
       subst w
       go_wp2_with (at_builtin; refine wpList_append_own _ rfl _ _ 35 rfl W.heap.size 39 i0 _ 2 16 Tryz.underlying35 hi hz0 hz1 hz2 rfl (by decide) _ _ _ rfl HOW.out ad il.length n (rowOf il) rfl (rowOf_length il) HCW.out (one_rowOf il) ?qc4 ?qc5 HB4.out.size ?_)
       case qc4 => have := HLL.out.1; unfold maxLen; omega
       case qc5 => have := HLL.out.1; omega
       intro v' w5 hown hgrow hnil
       have HRW := Lib.hid (show Row w5 W.heap.size v' (l ++ il) from ⟨by rw [rowOf_append, List.length_append]; exact hown, (inR_append _ _).2 ⟨HLL.out.2.1, HNW.out.2.2.1⟩, by have := HLL.out.1; rw [List.length_append]; omega⟩)
       have HBW := Lib.hid (HB4.out.grown hgrow HB4.out.size (fun k hk => (HOW.out.lt k hk).1))
       clear hown hgrow hnil HOW HCW HNW
       go_wp2
       go_roundg (s.size + 3 - nx)
       case measure => omega
       case rel => exact ⟨nx, k, false, l ++ il, rfl, rfl, by omega, by omega, by omega, by have := HLL.out.1; rw [List.length_append]; omega, by omega, HZ, ⟨HRW.out⟩, ⟨HBW.out⟩⟩
      ·have HZ := Lib.hid (show R = match Lx.span clC s chars x.sat ⟨true, ic, il, ia, nx⟩ (nx + 1) with
        | .error e => .error e
        | .ok i => Lx.parts clC s chars x.sat k i.nx.toNat false (l ++ i.l) by rw [HXX.out, if_pos (by simp)])
       clear HXX
       go_wp2_with fail
       refine HH1.out.mono ?_
       rintro e w ⟨rfl, hw⟩
       subst w
       go_wp2_with fail
       refine HH2.out.mono ?_
       rintro e w ⟨rfl, hw⟩
       subst w
       have HS := Lib.hid (span_calls (w3.alloc (.cells #[.bool true, .int .i64 ic, .slice (some ad) il.length n, .int .i64 ia, .int .i64 nx] 189)) B (nx + 1) x.sat s chars fold V m (HSC.out _ HB4.out) hs (by omega) (HM.out _ HB4.out) (HM2.out _ HB4.out) (tabs_below HT.out HB4.out) ⟨true, ic, il, ia, nx⟩ (some ad) il.length n HC.out)
       unfold itV at HS
       simp only at HS
       clear HH1 HH2 HNW
       go_wp2_with fail
       refine HS.out.mono ?_
       rintro e w5 ⟨hb5, ht⟩
       clear HS
       cases hr : Lx.span clC s chars x.sat ⟨true, ic, il, ia, nx⟩ (nx + 1) with
       | error y =>
        rw [hr] at ht
        obtain ⟨g, rfl, hg⟩ := ht
        have HY := Lib.hid (show Lx.bracket clC s chars fold x = .error y by rw [HE.out, HZ.out, hr])
        exact ⟨rfl, Steps.err HY.out (Bad.up ⟨g, rfl, hg⟩ HB4.out) (Below.up HB4.out hb5)⟩
       | ok i =>
        rw [hr] at ht
        obtain ⟨v, rfl, hrow⟩ := ht
        obtain ⟨hok, hne⟩ := span_ok hr
        obtain ⟨ad', n', hv, _⟩ := hrow.news hne
        subst hv
        have hZZ := HZ.out.trans (by rw [hr])
        obtain ⟨je, jc, jl, ja, jx⟩ := i
        obtain ⟨ny, hny, hny1, hny2⟩ := hok.n
        simp only at hny hrow hZZ
        subst hny
        simp only [Int.toNat_natCast] at hZZ
        have hjl : jl.length ≤ 10 := hok.l
        have HZZ := Lib.hid hZZ
        have hgz := heap_alloc_new w3 (.cells #[.bool true, .int .i64 ic, .slice (some ad) il.length n, .int .i64 ia, .int .i64 nx] 189)
        have hgw := (hb5.block _ (Array.getElem?_eq_some_iff.1 hgz).1).trans hgz
        have hf : ∀ o, w5.frozen? ⟨w3.heap.size, o, none⟩ = false := fun o => by simp only [World.frozen?, hgw]; simp
        have k0 := lk_cell (i := 0) hgw rfl
        have k1 := lk_cell (i := 1) hgw rfl
        have k2 := lk_cell (i := 2) hgw rfl
        have k3 := lk_cell (i := 3) hgw rfl
        have k4 := lk_cell (i := 4) hgw rfl
        have hro := set5_row hrow (row_ge hrow (Array.getElem?_eq_some_iff.1 hgz).1) (.bool je) (.int .i64 jc) (.slice (some ad') jl.length n') (.int .i64 ja) (.int .i64 ny)
        have HCE := Lib.hid hro.cellsOf
        have hB5 := set5_below (Below.up HB4.out hb5) hsz3 (.bool je) (.int .i64 jc) (.slice (some ad') jl.length n') (.int .i64 ja) (.int .i64 ny)
        have HB5 := Lib.hid hB5
        have hO5 := ownMove (ownMove HOW.out (fun k hk => hb5.block k (ownLt HOW.out k hk).2)) (B := set5 w5 w3.heap.size (.bool je) (.int .i64 jc) (.slice (some ad') jl.length n') (.int .i64 ja) (.int .i64 ny)) (fun k hk => set5_other (by have := HOLT.out k hk; omega) _ _ _ _ _)
        have HO5 := Lib.hid hO5
        have HIN := Lib.hid hrow.2.1
        clear hZZ hok hne hgz hgw hro hB5 hO5 HOW HOLT hrow hb5 HZ hr
        unfold itV
        go_wp2_with (at_builtin; refine wpList_append_own _ rfl _ _ 35 rfl W.heap.size 39 i0 _ 2 16 Tryz.underlying35 hi hz0 hz1 hz2 rfl (by decide) _ _ _ rfl HO5.out ad' jl.length n' (rowOf jl) rfl (rowOf_length jl) HCE.out (one_rowOf jl) ?qd4 ?qd5 HB5.out.size ?_)
        case qd4 => have := HLL.out.1; unfold maxLen; omega
        case qd5 => have := HLL.out.1; omega
        intro v' w6 hown hgrow hnil
        have HRW := Lib.hid (show Row w6 W.heap.size v' (l ++ jl) from ⟨by rw [rowOf_append, List.length_append]; exact hown, (inR_append _ _).2 ⟨HLL.out.2.1, HIN.out⟩, by have := HLL.out.1; rw [List.length_append]; omega⟩)
        have HBW := Lib.hid (HB5.out.grown hgrow HB5.out.size (fun k hk => (HO5.out.lt k hk).1))
        clear hown hgrow hnil HO5 HCE HB5 HB4
        go_wp2
        go_roundg (s.size + 3 - ny)
        case measure => omega
        case rel => exact ⟨ny, k, false, l ++ jl, rfl, rfl, by omega, by omega, by omega, by have := HLL.out.1; rw [List.length_append]; omega, by omega, HZZ, ⟨HRW.out⟩, ⟨HBW.out⟩⟩
 | true =>
  have hpv := hp0
  simp only [Bool.false_eq_true, if_false, if_true] at hpv
  have HPV := Lib.hid hpv
  clear hp0 hpv
  go_wp2_with fail
  go_loopg [2, 4, 5] (s.size + 3 - p0) (fun gg sa sl sf wr => ∃ (p k : Nat) (b : Bool) (l : List S64), sa = .int .i64 p ∧ sf = .bool b ∧ p ≤ s.size + 2 ∧ s.size + 3 ≤ p + k ∧ s.size + 3 - p ≤ gg ∧ l.length ≤ 10 * p ∧ x.sat < p ∧ Hid (R = Lx.parts clC s chars x.sat k p b l) ∧ Aside0 (Row wr W.heap.size sl l) ∧ Aside0 (Below W.heap.size W wr))
  case atStart => exact ⟨p0, s.size + 2, true, [], by have := HPV.out; rw [this]; go_num, rfl, by omega, by omega, Nat.le_refl _, by simp, hq0.1, HR, ⟨Row.nil _ _⟩, ⟨Below.refl _ _⟩⟩
  case round =>
   obtain ⟨p, k, b, l, rfl, rfl, hpl, hk, hgg, hll, hxp, HP, HO, HBL⟩ := hrel
   obtain ⟨k, rfl⟩ : ∃ j, k = j + 1 := ⟨k - 1, by omega⟩
   cases b with
   | true =>
    have HX := Lib.hid (show R = match Lx.part clC s chars x.sat p true with
     | .error e => .error e
     | .ok i => Lx.parts clC s chars x.sat k i.nx.toNat false (l ++ i.l) by rw [HP.out, parts_eq]; exact if_neg (by simp))
    have HI := Lib.hid (item_calls wr B p x.sat s chars fold true V m (HSC.out wr HBL.out) hs (by omega) (HM.out wr HBL.out) (HM2.out wr HBL.out) (tabs_below HT.out HBL.out))
    clear HP
    go_wp2_with fail
    refine HI.out.mono ?_
    rintro e w3 ⟨hb, ht⟩
    clear HI
    cases hr : Lx.item clC s chars x.sat p true with
    | error y =>
     rw [hr] at ht
     obtain ⟨g, rfl, hg⟩ := ht
     have HY := Lib.hid (show Lx.bracket clC s chars fold x = .error y by rw [HE.out, HX.out, part_eq, hr])
     exact ⟨rfl, Steps.err HY.out (Bad.up ⟨g, rfl, hg⟩ HBL.out) (Below.up HBL.out hb)⟩
    | ok i =>
     rw [hr] at ht
     obtain ⟨v, rfl, hrow⟩ := ht
     obtain ⟨ad, n, hv, hnews⟩ := hrow.news (item_ne hr)
     subst hv
     have hok := item_ok hr
     have hXX := HX.out.trans (by rw [part_eq, hr])
     simp only at hXX
     obtain ⟨ie, ic, il, ia, ix⟩ := i
     obtain ⟨nx, hnx, hnx1, hnx2⟩ := hok.n
     simp only at hnx hnews hrow hXX
     subst hnx
     simp only [Int.toNat_natCast] at hXX
     have hil : il.length ≤ 10 := hok.l
     have HC := Lib.hid (And.intro hok.c0 hok.c1)
     simp only at HC
     generalize hh1 : Lx.here s nx [45] = b1 at hXX
     generalize hh2 : Lx.here s nx [45, 93] = b2 at hXX
     have hb3 := Below.up HBL.out hb
     have hb4 := hb3.alloc hb3.size (.cells #[.bool ie, .int .i64 ic, .slice (some ad) il.length n, .int .i64 ia, .int .i64 nx] 189)
     have HH1 := Lib.hid (here_calls (w3.alloc (.cells #[.bool ie, .int .i64 ic, .slice (some ad) il.length n, .int .i64 ia, .int .i64 nx] 189)) B nx s ⟨#[45]⟩ (HSC.out _ hb4).c0 (by omega))
     have HH2 := Lib.hid (here_calls (w3.alloc (.cells #[.bool ie, .int .i64 ic, .slice (some ad) il.length n, .int .i64 ia, .int .i64 nx] 189)) B nx s ⟨#[45, 93]⟩ (HSC.out _ hb4).c0 (by omega))
     rw [show Lx.here s nx (⟨#[45]⟩ : ByteArray).data.toList = b1 from hh1] at HH1
     rw [show Lx.here s nx (⟨#[45, 93]⟩ : ByteArray).data.toList = b2 from hh2] at HH2
     have HXX := Lib.hid hXX
     have HB4 := Lib.hid hb4
     have hown3 := ownMove HO.out.1 (fun k hk => hb.block k (ownLt HO.out.1 k hk).2)
     have HOW := Lib.hid (hown3.alloc (.cells #[.bool ie, .int .i64 ic, .slice (some ad) il.length n, .int .i64 ia, .int .i64 nx] 189))
     have HNW := Lib.hid (And.intro hnews hrow)
     have HLL := Lib.hid (And.intro hll HO.out.2)
     have HCW := Lib.hid (hrow.below ((Below.refl _ w3).alloc (Nat.le_refl _) (.cells #[.bool ie, .int .i64 ic, .slice (some ad) il.length n, .int .i64 ia, .int .i64 nx] 189))).cellsOf
     unfold itV
     have hsz3 : W.heap.size ≤ w3.heap.size := hb3.size
     have HOLT := Lib.hid (fun k hk => (ownLt hown3 k hk).2)
     clear hh1 hh2 hb3 hb4 hb hnews hrow hok hXX hr HX HO hown3
     obtain ⟨A, c6, rfl⟩ := own_slice HOW.out
     have hcase : ie = false ∨ (ie = true ∧ b1 = false) ∨ (ie = true ∧ b1 = true ∧ b2 = true) ∨ (ie = true ∧ b1 = true ∧ b2 = false) := by
      cases ie <;> cases b1 <;> cases b2 <;> simp
     rcases hcase with rfl | ⟨rfl, rfl⟩ | ⟨rfl, rfl, rfl⟩ | ⟨rfl, rfl, rfl⟩
     ·have HZ := Lib.hid (show R = Lx.parts clC s chars x.sat k nx false (l ++ il) by rw [HXX.out, if_neg (by simp)]; rfl)
      clear HXX HH1 HH2
      go_wp2_with (at_builtin; refine wpList_append_own _ rfl _ _ 35 rfl W.heap.size 39 i0 _ 2 16 Tryz.underlying35 hi hz0 hz1 hz2 rfl (by decide) _ _ _ rfl HOW.out ad il.length n (rowOf il) rfl (rowOf_length il) HCW.out (one_rowOf il) ?qc4 ?qc5 HB4.out.size ?_)
      case qc4 => have := HLL.out.1; unfold maxLen; omega
      case qc5 => have := HLL.out.1; omega
      intro v' w5 hown hgrow hnil
      have HRW := Lib.hid (show Row w5 W.heap.size v' (l ++ il) from ⟨by rw [rowOf_append, List.length_append]; exact hown, (inR_append _ _).2 ⟨HLL.out.2.1, HNW.out.2.2.1⟩, by have := HLL.out.1; rw [List.length_append]; omega⟩)
      have HBW := Lib.hid (HB4.out.grown hgrow HB4.out.size (fun k hk => (HOW.out.lt k hk).1))
      clear hown hgrow hnil HOW HCW HNW
      go_wp2
      go_roundg (s.size + 3 - nx)
      case measure => omega
      case rel => exact ⟨nx, k, false, l ++ il, rfl, rfl, by omega, by omega, by omega, by have := HLL.out.1; rw [List.length_append]; omega, by omega, HZ, ⟨HRW.out⟩, ⟨HBW.out⟩⟩
     ·have HZ := Lib.hid (show R = Lx.parts clC s chars x.sat k nx false (l ++ il) by rw [HXX.out, if_neg (by simp)]; rfl)
      clear HXX HH2
      go_wp2_with fail
      refine HH1.out.mono ?_
      rintro e w ⟨rfl, hw⟩
      subst w
      go_wp2_with (at_builtin; refine wpList_append_own _ rfl _ _ 35 rfl W.heap.size 39 i0 _ 2 16 Tryz.underlying35 hi hz0 hz1 hz2 rfl (by decide) _ _ _ rfl HOW.out ad il.length n (rowOf il) rfl (rowOf_length il) HCW.out (one_rowOf il) ?qc4 ?qc5 HB4.out.size ?_)
      case qc4 => have := HLL.out.1; unfold maxLen; omega
      case qc5 => have := HLL.out.1; omega
      intro v' w5 hown hgrow hnil
      have HRW := Lib.hid (show Row w5 W.heap.size v' (l ++ il) from ⟨by rw [rowOf_append, List.length_append]; exact hown, (inR_append _ _).2 ⟨HLL.out.2.1, HNW.out.2.2.1⟩, by have := HLL.out.1; rw [List.length_append]; omega⟩)
      have HBW := Lib.hid (HB4.out.grown hgrow HB4.out.size (fun k hk => (HOW.out.lt k hk).1))
      clear hown hgrow hnil HOW HCW HNW
      go_wp2
      go_roundg (s.size + 3 - nx)
      case measure => omega
      case rel => exact ⟨nx, k, false, l ++ il, rfl, rfl, by omega, by omega, by omega, by have := HLL.out.1; rw [List.length_append]; omega, by omega, HZ, ⟨HRW.out⟩, ⟨HBW.out⟩⟩
     ·have HZ := Lib.hid (show R = Lx.parts clC s chars x.sat k nx false (l ++ il) by rw [HXX.out, if_neg (by simp)]; rfl)
      clear HXX
      go_wp2_with fail
      refine HH1.out.mono ?_
      rintro e w ⟨rfl, hw⟩
      subst w
      go_wp2_with fail
      refine HH2.out.mono ?_
      rintro e w ⟨rfl, hw⟩
      subst w
      go_wp2_with (at_builtin; refine wpList_append_own _ rfl _ _ 35 rfl W.heap.size 39 i0 _ 2 16 Tryz.underlying35 hi hz0 hz1 hz2 rfl (by decide) _ _ _ rfl HOW.out ad il.length n (rowOf il) rfl (rowOf_length il) HCW.out (one_rowOf il) ?qc4 ?qc5 HB4.out.size ?_)
      case qc4 => have := HLL.out.1; unfold maxLen; omega
      case qc5 => have := HLL.out.1; omega
      intro v' w5 hown hgrow hnil
      have HRW := Lib.hid (show Row w5 W.heap.size v' (l ++ il) from ⟨by rw [rowOf_append, List.length_append]; exact hown, (inR_append _ _).2 ⟨HLL.out.2.1, HNW.out.2.2.1⟩, by have := HLL.out.1; rw [List.length_append]; omega⟩)
      have HBW := Lib.hid (HB4.out.grown hgrow HB4.out.size (fun k hk => (HOW.out.lt k hk).1))
      clear hown hgrow hnil HOW HCW HNW
      go_wp2
      go_roundg (s.size + 3 - nx)
      case measure => omega
      case rel => exact ⟨nx, k, false, l ++ il, rfl, rfl, by omega, by omega, by omega, by have := HLL.out.1; rw [List.length_append]; omega, by omega, HZ, ⟨HRW.out⟩, ⟨HBW.out⟩⟩
     ·have HZ := Lib.hid (show R = match Lx.span clC s chars x.sat ⟨true, ic, il, ia, nx⟩ (nx + 1) with
       | .error e => .error e
       | .ok i => Lx.parts clC s chars x.sat k i.nx.toNat false (l ++ i.l) by rw [HXX.out, if_pos (by simp)])
      clear HXX
      go_wp2_with fail
      refine HH1.out.mono ?_
      rintro e w ⟨rfl, hw⟩
      subst w
      go_wp2_with fail
      refine HH2.out.mono ?_
      rintro e w ⟨rfl, hw⟩
      subst w
      have HS := Lib.hid (span_calls (w3.alloc (.cells #[.bool true, .int .i64 ic, .slice (some ad) il.length n, .int .i64 ia, .int .i64 nx] 189)) B (nx + 1) x.sat s chars fold V m (HSC.out _ HB4.out) hs (by omega) (HM.out _ HB4.out) (HM2.out _ HB4.out) (tabs_below HT.out HB4.out) ⟨true, ic, il, ia, nx⟩ (some ad) il.length n HC.out)
      unfold itV at HS
      simp only at HS
      clear HH1 HH2 HNW
      go_wp2_with fail
      refine HS.out.mono ?_
      rintro e w5 ⟨hb5, ht⟩
      clear HS
      cases hr : Lx.span clC s chars x.sat ⟨true, ic, il, ia, nx⟩ (nx + 1) with
      | error y =>
       rw [hr] at ht
       obtain ⟨g, rfl, hg⟩ := ht
       have HY := Lib.hid (show Lx.bracket clC s chars fold x = .error y by rw [HE.out, HZ.out, hr])
       exact ⟨rfl, Steps.err HY.out (Bad.up ⟨g, rfl, hg⟩ HB4.out) (Below.up HB4.out hb5)⟩
      | ok i =>
       rw [hr] at ht
       obtain ⟨v, rfl, hrow⟩ := ht
       obtain ⟨hok, hne⟩ := span_ok hr
       obtain ⟨ad', n', hv, _⟩ := hrow.news hne
       subst hv
       have hZZ := HZ.out.trans (by rw [hr])
       obtain ⟨je, jc, jl, ja, jx⟩ := i
       obtain ⟨ny, hny, hny1, hny2⟩ := hok.n
       simp only at hny hrow hZZ
       subst hny
       simp only [Int.toNat_natCast] at hZZ
       have hjl : jl.length ≤ 10 := hok.l
       have HZZ := Lib.hid hZZ
       have hgz := heap_alloc_new w3 (.cells #[.bool true, .int .i64 ic, .slice (some ad) il.length n, .int .i64 ia, .int .i64 nx] 189)
       have hgw := (hb5.block _ (Array.getElem?_eq_some_iff.1 hgz).1).trans hgz
       have hf : ∀ o, w5.frozen? ⟨w3.heap.size, o, none⟩ = false := fun o => by simp only [World.frozen?, hgw]; simp
       have k0 := lk_cell (i := 0) hgw rfl
       have k1 := lk_cell (i := 1) hgw rfl
       have k2 := lk_cell (i := 2) hgw rfl
       have k3 := lk_cell (i := 3) hgw rfl
       have k4 := lk_cell (i := 4) hgw rfl
       have hro := set5_row hrow (row_ge hrow (Array.getElem?_eq_some_iff.1 hgz).1) (.bool je) (.int .i64 jc) (.slice (some ad') jl.length n') (.int .i64 ja) (.int .i64 ny)
       have HCE := Lib.hid hro.cellsOf
       have hB5 := set5_below (Below.up HB4.out hb5) hsz3 (.bool je) (.int .i64 jc) (.slice (some ad') jl.length n') (.int .i64 ja) (.int .i64 ny)
       have HB5 := Lib.hid hB5
       have hO5 := ownMove (ownMove HOW.out (fun k hk => hb5.block k (ownLt HOW.out k hk).2)) (B := set5 w5 w3.heap.size (.bool je) (.int .i64 jc) (.slice (some ad') jl.length n') (.int .i64 ja) (.int .i64 ny)) (fun k hk => set5_other (by have := HOLT.out k hk; omega) _ _ _ _ _)
       have HO5 := Lib.hid hO5
       have HIN := Lib.hid hrow.2.1
       clear hZZ hok hne hgz hgw hro hB5 hO5 HOW HOLT hrow hb5 HZ hr
       unfold itV
       go_wp2_with (at_builtin; refine wpList_append_own _ rfl _ _ 35 rfl W.heap.size 39 i0 _ 2 16 Tryz.underlying35 hi hz0 hz1 hz2 rfl (by decide) _ _ _ rfl HO5.out ad' jl.length n' (rowOf jl) rfl (rowOf_length jl) HCE.out (one_rowOf jl) ?qd4 ?qd5 HB5.out.size ?_)
       case qd4 => have := HLL.out.1; unfold maxLen; omega
       case qd5 => have := HLL.out.1; omega
       intro v' w6 hown hgrow hnil
       have HRW := Lib.hid (show Row w6 W.heap.size v' (l ++ jl) from ⟨by rw [rowOf_append, List.length_append]; exact hown, (inR_append _ _).2 ⟨HLL.out.2.1, HIN.out⟩, by have := HLL.out.1; rw [List.length_append]; omega⟩)
       have HBW := Lib.hid (HB5.out.grown hgrow HB5.out.size (fun k hk => (HO5.out.lt k hk).1))
       clear hown hgrow hnil HO5 HCE HB5 HB4
       go_wp2
       go_roundg (s.size + 3 - ny)
       case measure => omega
       case rel => exact ⟨ny, k, false, l ++ jl, rfl, rfl, by omega, by omega, by omega, by have := HLL.out.1; rw [List.length_append]; omega, by omega, HZZ, ⟨HRW.out⟩, ⟨HBW.out⟩⟩
   | false =>
    have HH := Lib.hid (here_calls wr B p s ⟨#[93]⟩ (HSC.out wr HBL.out).c0 (by omega))
    generalize hb : Lx.here s p [93] = bb
    rw [show Lx.here s p (⟨#[93]⟩ : ByteArray).data.toList = bb from hb] at HH
    go_wp2_with fail
    refine HH.out.mono ?_
    rintro e w ⟨rfl, hw⟩
    subst w
    cases bb with
    | true =>
     have HX := Lib.hid (show Lx.bracket clC s chars fold x = .ok (Lx.put x ⟨1, 0, 0, 0, 0, 0, Lx.close clC chars fold true l⟩ (p + 1)) by rw [HE.out, HP.out, parts_eq, if_pos ⟨rfl, hb⟩]; rfl)
     have hpe := here_le hb
     simp only [List.length_cons, List.length_nil] at hpe
     have HNO := Lib.hid (norm_row wr W.heap.size _ l chars HO.out)
     have c1 := (HSC.out wr HBL.out).c1
     clear HP HE HR hb
     go_wp2_with fail
     refine HNO.out.mono ?_
     rintro e w3 ⟨v3, rfl, hr3, hb3⟩
     have HB3 := Lib.hid (Below.up HBL.out hb3)
     have HR3 := Lib.hid (hr3.lower HBL.out.size)
     have c2 := (HSC.out w3 HB3.out).c2
     have c4 := (HSC.out w3 HB3.out).c1
     clear hr3 hb3 HNO HO HBL c0 c1 c3
     cases fold with
     | true =>
      have HFO := Lib.hid (fold_row w3 W.heap.size _ _ HR3.out (by have := norm_length l chars; omega))
      go_wp2_with fail
      refine HFO.out.mono ?_
      rintro e w4 ⟨v4, rfl, hr4, hb4⟩
      have HB4 := Lib.hid (Below.up HB3.out hb4)
      have HR4 := Lib.hid (hr4.lower HB3.out.size)
      have c6 := (HSC.out w4 HB4.out).c1
      clear hr4 hb4 HFO HR3 HB3 c2 c4
      have HNN := Lib.hid (not_row w4 W.heap.size _ _ chars HR4.out)
      go_wp2_with fail
      refine HNN.out.mono ?_
      rintro e w9 ⟨v9, rfl, hr9, hb9⟩
      have HB9 := Lib.hid (Below.up HB4.out hb9)
      have HR9 := Lib.hid (hr9.lower HB4.out.size)
      clear hr9 hb9 HNN
      obtain ⟨A9, k9, rfl⟩ := HR9.out.form
      have HPU := Lib.hid (lput_calls W w9 B base s chars true x V HST.out HB9.out 1 0 0 0 _ _ HR9.out.1 HR9.out.2.1 (by have := HR9.out.2.2; omega) (p + 1) (by omega) (by omega))
      go_wp2_with fail
      refine HPU.out.mono ?_
      rintro e' w' ⟨rfl, V', h⟩
      go_wp2_with fail
      go_end0
      exact Steps.ok HX.out rfl ⟨V', h⟩
     | false =>
      have HNN := Lib.hid (not_row w3 W.heap.size _ _ chars HR3.out)
      go_wp2_with fail
      refine HNN.out.mono ?_
      rintro e w9 ⟨v9, rfl, hr9, hb9⟩
      have HB9 := Lib.hid (Below.up HB3.out hb9)
      have HR9 := Lib.hid (hr9.lower HB3.out.size)
      clear hr9 hb9 HNN
      obtain ⟨A9, k9, rfl⟩ := HR9.out.form
      have HPU := Lib.hid (lput_calls W w9 B base s chars false x V HST.out HB9.out 1 0 0 0 _ _ HR9.out.1 HR9.out.2.1 (by have := HR9.out.2.2; omega) (p + 1) (by omega) (by omega))
      go_wp2_with fail
      refine HPU.out.mono ?_
      rintro e' w' ⟨rfl, V', h⟩
      go_wp2_with fail
      go_end0
      exact Steps.ok HX.out rfl ⟨V', h⟩
    | false =>
     have HX := Lib.hid (show R = match Lx.part clC s chars x.sat p false with
      | .error e => .error e
      | .ok i => Lx.parts clC s chars x.sat k i.nx.toNat false (l ++ i.l) by rw [HP.out, parts_eq]; exact if_neg (by rw [hb]; decide))
     have HI := Lib.hid (item_calls wr B p x.sat s chars fold false V m (HSC.out wr HBL.out) hs (by omega) (HM.out wr HBL.out) (HM2.out wr HBL.out) (tabs_below HT.out HBL.out))
     clear HP
     go_wp2_with fail
     refine HI.out.mono ?_
     rintro e w3 ⟨hb, ht⟩
     clear HI
     cases hr : Lx.item clC s chars x.sat p false with
     | error y =>
      rw [hr] at ht
      obtain ⟨g, rfl, hg⟩ := ht
      have HY := Lib.hid (show Lx.bracket clC s chars fold x = .error y by rw [HE.out, HX.out, part_eq, hr])
      exact ⟨rfl, Steps.err HY.out (Bad.up ⟨g, rfl, hg⟩ HBL.out) (Below.up HBL.out hb)⟩
     | ok i =>
      rw [hr] at ht
      obtain ⟨v, rfl, hrow⟩ := ht
      obtain ⟨ad, n, hv, hnews⟩ := hrow.news (item_ne hr)
      subst hv
      have hok := item_ok hr
      have hXX := HX.out.trans (by rw [part_eq, hr])
      simp only at hXX
      obtain ⟨ie, ic, il, ia, ix⟩ := i
      obtain ⟨nx, hnx, hnx1, hnx2⟩ := hok.n
      simp only at hnx hnews hrow hXX
      subst hnx
      simp only [Int.toNat_natCast] at hXX
      have hil : il.length ≤ 10 := hok.l
      have HC := Lib.hid (And.intro hok.c0 hok.c1)
      simp only at HC
      generalize hh1 : Lx.here s nx [45] = b1 at hXX
      generalize hh2 : Lx.here s nx [45, 93] = b2 at hXX
      have hb3 := Below.up HBL.out hb
      have hb4 := hb3.alloc hb3.size (.cells #[.bool ie, .int .i64 ic, .slice (some ad) il.length n, .int .i64 ia, .int .i64 nx] 189)
      have HH1 := Lib.hid (here_calls (w3.alloc (.cells #[.bool ie, .int .i64 ic, .slice (some ad) il.length n, .int .i64 ia, .int .i64 nx] 189)) B nx s ⟨#[45]⟩ (HSC.out _ hb4).c0 (by omega))
      have HH2 := Lib.hid (here_calls (w3.alloc (.cells #[.bool ie, .int .i64 ic, .slice (some ad) il.length n, .int .i64 ia, .int .i64 nx] 189)) B nx s ⟨#[45, 93]⟩ (HSC.out _ hb4).c0 (by omega))
      rw [show Lx.here s nx (⟨#[45]⟩ : ByteArray).data.toList = b1 from hh1] at HH1
      rw [show Lx.here s nx (⟨#[45, 93]⟩ : ByteArray).data.toList = b2 from hh2] at HH2
      have HXX := Lib.hid hXX
      have HB4 := Lib.hid hb4
      have hown3 := ownMove HO.out.1 (fun k hk => hb.block k (ownLt HO.out.1 k hk).2)
      have HOW := Lib.hid (hown3.alloc (.cells #[.bool ie, .int .i64 ic, .slice (some ad) il.length n, .int .i64 ia, .int .i64 nx] 189))
      have HNW := Lib.hid (And.intro hnews hrow)
      have HLL := Lib.hid (And.intro hll HO.out.2)
      have HCW := Lib.hid (hrow.below ((Below.refl _ w3).alloc (Nat.le_refl _) (.cells #[.bool ie, .int .i64 ic, .slice (some ad) il.length n, .int .i64 ia, .int .i64 nx] 189))).cellsOf
      unfold itV
      have hsz3 : W.heap.size ≤ w3.heap.size := hb3.size
      have HOLT := Lib.hid (fun k hk => (ownLt hown3 k hk).2)
      clear hh1 hh2 hb3 hb4 hb hnews hrow hok hXX hr HX HO hown3
      obtain ⟨A, c6, rfl⟩ := own_slice HOW.out
      have hcase : ie = false ∨ (ie = true ∧ b1 = false) ∨ (ie = true ∧ b1 = true ∧ b2 = true) ∨ (ie = true ∧ b1 = true ∧ b2 = false) := by
       cases ie <;> cases b1 <;> cases b2 <;> simp
      rcases hcase with rfl | ⟨rfl, rfl⟩ | ⟨rfl, rfl, rfl⟩ | ⟨rfl, rfl, rfl⟩
      ·have HZ := Lib.hid (show R = Lx.parts clC s chars x.sat k nx false (l ++ il) by rw [HXX.out, if_neg (by simp)]; rfl)
       clear HXX HH1 HH2
       go_wp2_with (at_builtin; refine wpList_append_own _ rfl _ _ 35 rfl W.heap.size 39 i0 _ 2 16 Tryz.underlying35 hi hz0 hz1 hz2 rfl (by decide) _ _ _ rfl HOW.out ad il.length n (rowOf il) rfl (rowOf_length il) HCW.out (one_rowOf il) ?qc4 ?qc5 HB4.out.size ?_)
       case qc4 => have := HLL.out.1; unfold maxLen; omega
       case qc5 => have := HLL.out.1; omega
       intro v' w5 hown hgrow hnil
       have HRW := Lib.hid (show Row w5 W.heap.size v' (l ++ il) from ⟨by rw [rowOf_append, List.length_append]; exact hown, (inR_append _ _).2 ⟨HLL.out.2.1, HNW.out.2.2.1⟩, by have := HLL.out.1; rw [List.length_append]; omega⟩)
       have HBW := Lib.hid (HB4.out.grown hgrow HB4.out.size (fun k hk => (HOW.out.lt k hk).1))
       clear hown hgrow hnil HOW HCW HNW
       go_wp2
       go_roundg (s.size + 3 - nx)
       case measure => omega
       case rel => exact ⟨nx, k, false, l ++ il, rfl, rfl, by omega, by omega, by omega, by have := HLL.out.1; rw [List.length_append]; omega, by omega, HZ, ⟨HRW.out⟩, ⟨HBW.out⟩⟩
      ·have HZ := Lib.hid (show R = Lx.parts clC s chars x.sat k nx false (l ++ il) by rw [HXX.out, if_neg (by simp)]; rfl)
       clear HXX HH2
       go_wp2_with fail
       refine HH1.out.mono ?_
       rintro e w ⟨rfl, hw⟩
       subst w
       go_wp2_with (at_builtin; refine wpList_append_own _ rfl _ _ 35 rfl W.heap.size 39 i0 _ 2 16 Tryz.underlying35 hi hz0 hz1 hz2 rfl (by decide) _ _ _ rfl HOW.out ad il.length n (rowOf il) rfl (rowOf_length il) HCW.out (one_rowOf il) ?qc4 ?qc5 HB4.out.size ?_)
       case qc4 => have := HLL.out.1; unfold maxLen; omega
       case qc5 => have := HLL.out.1; omega
       intro v' w5 hown hgrow hnil
       have HRW := Lib.hid (show Row w5 W.heap.size v' (l ++ il) from ⟨by rw [rowOf_append, List.length_append]; exact hown, (inR_append _ _).2 ⟨HLL.out.2.1, HNW.out.2.2.1⟩, by have := HLL.out.1; rw [List.length_append]; omega⟩)
       have HBW := Lib.hid (HB4.out.grown hgrow HB4.out.size (fun k hk => (HOW.out.lt k hk).1))
       clear hown hgrow hnil HOW HCW HNW
       go_wp2
       go_roundg (s.size + 3 - nx)
       case measure => omega
       case rel => exact ⟨nx, k, false, l ++ il, rfl, rfl, by omega, by omega, by omega, by have := HLL.out.1; rw [List.length_append]; omega, by omega, HZ, ⟨HRW.out⟩, ⟨HBW.out⟩⟩
      ·have HZ := Lib.hid (show R = Lx.parts clC s chars x.sat k nx false (l ++ il) by rw [HXX.out, if_neg (by simp)]; rfl)
       clear HXX
       go_wp2_with fail
       refine HH1.out.mono ?_
       rintro e w ⟨rfl, hw⟩
       subst w
       go_wp2_with fail
       refine HH2.out.mono ?_
       rintro e w ⟨rfl, hw⟩
       subst w
       go_wp2_with (at_builtin; refine wpList_append_own _ rfl _ _ 35 rfl W.heap.size 39 i0 _ 2 16 Tryz.underlying35 hi hz0 hz1 hz2 rfl (by decide) _ _ _ rfl HOW.out ad il.length n (rowOf il) rfl (rowOf_length il) HCW.out (one_rowOf il) ?qc4 ?qc5 HB4.out.size ?_)
       case qc4 => have := HLL.out.1; unfold maxLen; omega
       case qc5 => have := HLL.out.1; omega
       intro v' w5 hown hgrow hnil
       have HRW := Lib.hid (show Row w5 W.heap.size v' (l ++ il) from ⟨by rw [rowOf_append, List.length_append]; exact hown, (inR_append _ _).2 ⟨HLL.out.2.1, HNW.out.2.2.1⟩, by have := HLL.out.1; rw [List.length_append]; omega⟩)
       have HBW := Lib.hid (HB4.out.grown hgrow HB4.out.size (fun k hk => (HOW.out.lt k hk).1))
       clear hown hgrow hnil HOW HCW HNW
       go_wp2
       go_roundg (s.size + 3 - nx)
       case measure => omega
       case rel => exact ⟨nx, k, false, l ++ il, rfl, rfl, by omega, by omega, by omega, by have := HLL.out.1; rw [List.length_append]; omega, by omega, HZ, ⟨HRW.out⟩, ⟨HBW.out⟩⟩
      ·have HZ := Lib.hid (show R = match Lx.span clC s chars x.sat ⟨true, ic, il, ia, nx⟩ (nx + 1) with
        | .error e => .error e
        | .ok i => Lx.parts clC s chars x.sat k i.nx.toNat false (l ++ i.l) by rw [HXX.out, if_pos (by simp)])
       clear HXX
       go_wp2_with fail
       refine HH1.out.mono ?_
       rintro e w ⟨rfl, hw⟩
       subst w
       go_wp2_with fail
       refine HH2.out.mono ?_
       rintro e w ⟨rfl, hw⟩
       subst w
       have HS := Lib.hid (span_calls (w3.alloc (.cells #[.bool true, .int .i64 ic, .slice (some ad) il.length n, .int .i64 ia, .int .i64 nx] 189)) B (nx + 1) x.sat s chars fold V m (HSC.out _ HB4.out) hs (by omega) (HM.out _ HB4.out) (HM2.out _ HB4.out) (tabs_below HT.out HB4.out) ⟨true, ic, il, ia, nx⟩ (some ad) il.length n HC.out)
       unfold itV at HS
       simp only at HS
       clear HH1 HH2 HNW
       go_wp2_with fail
       refine HS.out.mono ?_
       rintro e w5 ⟨hb5, ht⟩
       clear HS
       cases hr : Lx.span clC s chars x.sat ⟨true, ic, il, ia, nx⟩ (nx + 1) with
       | error y =>
        rw [hr] at ht
        obtain ⟨g, rfl, hg⟩ := ht
        have HY := Lib.hid (show Lx.bracket clC s chars fold x = .error y by rw [HE.out, HZ.out, hr])
        exact ⟨rfl, Steps.err HY.out (Bad.up ⟨g, rfl, hg⟩ HB4.out) (Below.up HB4.out hb5)⟩
       | ok i =>
        rw [hr] at ht
        obtain ⟨v, rfl, hrow⟩ := ht
        obtain ⟨hok, hne⟩ := span_ok hr
        obtain ⟨ad', n', hv, _⟩ := hrow.news hne
        subst hv
        have hZZ := HZ.out.trans (by rw [hr])
        obtain ⟨je, jc, jl, ja, jx⟩ := i
        obtain ⟨ny, hny, hny1, hny2⟩ := hok.n
        simp only at hny hrow hZZ
        subst hny
        simp only [Int.toNat_natCast] at hZZ
        have hjl : jl.length ≤ 10 := hok.l
        have HZZ := Lib.hid hZZ
        have hgz := heap_alloc_new w3 (.cells #[.bool true, .int .i64 ic, .slice (some ad) il.length n, .int .i64 ia, .int .i64 nx] 189)
        have hgw := (hb5.block _ (Array.getElem?_eq_some_iff.1 hgz).1).trans hgz
        have hf : ∀ o, w5.frozen? ⟨w3.heap.size, o, none⟩ = false := fun o => by simp only [World.frozen?, hgw]; simp
        have k0 := lk_cell (i := 0) hgw rfl
        have k1 := lk_cell (i := 1) hgw rfl
        have k2 := lk_cell (i := 2) hgw rfl
        have k3 := lk_cell (i := 3) hgw rfl
        have k4 := lk_cell (i := 4) hgw rfl
        have hro := set5_row hrow (row_ge hrow (Array.getElem?_eq_some_iff.1 hgz).1) (.bool je) (.int .i64 jc) (.slice (some ad') jl.length n') (.int .i64 ja) (.int .i64 ny)
        have HCE := Lib.hid hro.cellsOf
        have hB5 := set5_below (Below.up HB4.out hb5) hsz3 (.bool je) (.int .i64 jc) (.slice (some ad') jl.length n') (.int .i64 ja) (.int .i64 ny)
        have HB5 := Lib.hid hB5
        have hO5 := ownMove (ownMove HOW.out (fun k hk => hb5.block k (ownLt HOW.out k hk).2)) (B := set5 w5 w3.heap.size (.bool je) (.int .i64 jc) (.slice (some ad') jl.length n') (.int .i64 ja) (.int .i64 ny)) (fun k hk => set5_other (by have := HOLT.out k hk; omega) _ _ _ _ _)
        have HO5 := Lib.hid hO5
        have HIN := Lib.hid hrow.2.1
        clear hZZ hok hne hgz hgw hro hB5 hO5 HOW HOLT hrow hb5 HZ hr
        unfold itV
        go_wp2_with (at_builtin; refine wpList_append_own _ rfl _ _ 35 rfl W.heap.size 39 i0 _ 2 16 Tryz.underlying35 hi hz0 hz1 hz2 rfl (by decide) _ _ _ rfl HO5.out ad' jl.length n' (rowOf jl) rfl (rowOf_length jl) HCE.out (one_rowOf jl) ?qd4 ?qd5 HB5.out.size ?_)
        case qd4 => have := HLL.out.1; unfold maxLen; omega
        case qd5 => have := HLL.out.1; omega
        intro v' w6 hown hgrow hnil
        have HRW := Lib.hid (show Row w6 W.heap.size v' (l ++ jl) from ⟨by rw [rowOf_append, List.length_append]; exact hown, (inR_append _ _).2 ⟨HLL.out.2.1, HIN.out⟩, by have := HLL.out.1; rw [List.length_append]; omega⟩)
        have HBW := Lib.hid (HB5.out.grown hgrow HB5.out.size (fun k hk => (HO5.out.lt k hk).1))
        clear hown hgrow hnil HO5 HCE HB5 HB4
        go_wp2
        go_roundg (s.size + 3 - ny)
        case measure => omega
        case rel => exact ⟨ny, k, false, l ++ jl, rfl, rfl, by omega, by omega, by omega, by have := HLL.out.1; rw [List.length_append]; omega, by omega, HZZ, ⟨HRW.out⟩, ⟨HBW.out⟩⟩
end Go.Proofs.YtamhkdlcoghdbaaGreatDoor.PCls
