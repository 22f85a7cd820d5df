/- Put together (wip/tools/pack.py): QPu, QPv, QTHas. -/
import Derived.Test.YtamhkdlcoghdbaaGreatDoorKQPs
/- Out of Pu (wip/tools/prune2.py): the declarations alone that the texts of the trees name. -/
namespace Go.Proofs.YtamhkdlcoghdbaaGreatDoor.PCls
open Go.RowKit Go.Shelf Go.Proofs.YtamhkdlcoghdbaaGreatDoorW.PrintWords Go.Proofs.YtamhkdlcoghdbaaGreatDoorW.PrintLast Go.Proofs.YtamhkdlcoghdbaaGreatDoorW.PrintMore
set_option linter.unusedVariables false
set_option linter.unusedSimpArgs false
set_option maxHeartbeats 4000000 in
theorem ptold_nil (w : World) : Calls Tryz.prog 20 #[.nilIface] w fun e w' => e = .returned (.tuple #[.int .i64 0, .int .i64 0, .bool true]) ∧ w' = w := by
  go_enter Tryz.func20, Tryz.ntmps20
  go_wp2_with fail
  go_ret3
  exact ⟨rfl, rfl⟩
set_option maxHeartbeats 4000000 in
set_option maxRecDepth 100000 in
theorem ptold_some (w : World) (g : Nat) (c p : Int) (hg : w.heap[g]? = some (.cells #[.int .i64 c, .int .i64 p] 78 (0, 0))) :
    Calls Tryz.prog 20 #[.iface 71 (.pointer (some ⟨g, 0, none⟩))] w fun e w' => e = .returned (.tuple #[.int .i64 c, .int .i64 p, .bool true]) ∧ Below w.heap.size w w' := by
  have hta : ∀ w', (Instr.typeAssert (.iface 71 (.pointer (some ⟨g, 0, none⟩))) 29 71 true).run Tryz.prog w' = .ok (.tuple #[.pointer (some ⟨g, 0, none⟩), .bool true]) w' := fun w' => run_asserted2 71 29 _ _ w' Tryz.underlying71
  have k0 := lk_cell (i := 0) hg rfl
  have k1 := lk_cell (i := 1) hg rfl
  have hgl : g < w.heap.size := (Array.getElem?_eq_some_iff.1 hg).1
  go_enter Tryz.func20, Tryz.ntmps20
  go_wp2_with fail
  refine go_start (fun w' => Below w.heap.size w w') [] [.p 0, .p 1, .p 2, .t 3, .p 4, .p 5, .p 6, .t 7, .p 8, .p 9, .p 10] (by kernel_rfl) (by kernel_rfl) (fun c d v a w h => by cases d <;> exact h) ((Below.refl _ w).drew) (fun w2 hS2 => ?_)
  repeat first
  | refine go_p (v := ?_) (b := ?_) rfl (.inl ⟨by rfl, ?_⟩) ?_ ?_
    rotate_left 2
    · intro w'; go_simp; with_reducible rfl
    · simp only [Act.put, pu_, pz_, ps_, i64_w, i32_w]; rfl
  | refine go_t (v := ?_) (b := ?_) rfl (.inl ⟨by rfl, ?_⟩) ?_ ?_
    rotate_left 2
    · intro w' hS; have hc := Below.cells hS; go_simp; with_reducible rfl
    · simp only [Act.put, pu_, pz_, ps_, i64_w, i32_w]; rfl
  refine go_done ?_
  go_wp2_with fail
  go_ret3
  exact ⟨rfl, hS2⟩
theorem pex_ok : parseS ⟨#[92, 40, 97, 92, 40, 98, 92, 41, 92, 41, 92, 50]⟩ false false = .ok (.mk 5 0 0 0 [] [.mk 7 1 0 0 [] [.mk 5 0 0 0 [] [.mk 2 0 0 0 [⟨97, 97⟩] [], .mk 7 2 0 0 [] [.mk 2 0 0 0 [⟨98, 98⟩] []]]], .mk 8 2 0 0 [] []]) := by kernel_rfl
theorem pex_a : parseS ⟨#[97, 92, 41]⟩ false false = .error (40, 1) := by kernel_rfl
theorem pex_b : parseS ⟨#[92, 40, 92, 40, 97, 92, 41]⟩ false false = .error (39, 0) := by kernel_rfl
theorem pex_c : parseS ⟨#[92, 50, 92, 40, 97, 92, 41]⟩ false false = .error (41, 0) := by kernel_rfl
set_option maxHeartbeats 4000000 in
set_option maxRecDepth 100000 in
theorem pwrong_calls (w : World) (s : ByteArray) (c p m : Int) (hs : s.size ≤ 140737488351232) (hm : w.cell? ⟨2, 0, none⟩ = some (.int .i64 m)) (h2 : 2 < w.heap.size) (hT : Lib.Utf8Tabs 0 1 w) (h : parseS s false false = .error (c, p)) :
    Calls Tryz.prog 44 #[.string s, .int .i64 c, .int .i64 p] w fun e w' => e = .returned (.bool true) ∧ Below w.heap.size w w' := by
  have HL := Lib.hid (parse_calls w s false false m hs hm h2 hT)
  rw [h] at HL
  clear hm h2 hT h
  go_enter Tryz.func44, Tryz.ntmps44
  go_wp2_with fail
  refine HL.out.mono ?_
  rintro e w1 ⟨hb, g, rfl, hg, hgc⟩
  have hb0 := (Below.refl w1.heap.size w1).alloc (Nat.le_refl _) (.cells #[.int .i64 0, .int .i64 0, .int .i64 0, .int .i64 0, .slice none 0 0, .slice none 0 0] 43)
  have HB := Lib.hid (And.intro hb hb0)
  have HT := Lib.hid (ptold_some (w1.alloc (.cells #[.int .i64 0, .int .i64 0, .int .i64 0, .int .i64 0, .slice none 0 0, .slice none 0 0] 43)) g c p ((hb0.block g (blk_lt hgc)).trans hgc))
  clear hb hb0 hg hgc HL
  go_wp2_with fail
  refine HT.out.mono ?_
  rintro e w2 ⟨rfl, hb⟩
  have hk := (hb.block w1.heap.size (by simp)).trans (heap_alloc_new w1 _)
  have c0 := lk_cell (i := 0) hk rfl
  have hl := blk_lt hk
  have HB2 := Lib.hid (HB.out.1.trans ((Below.up HB.out.2 hb).mono HB.out.1.size))
  clear hb HT hk
  go_wp2_with fail
  go_ret
  exact ⟨rfl, HB2.out⟩
end Go.Proofs.YtamhkdlcoghdbaaGreatDoor.PCls
/- Out of Pv (wip/tools/prune2.py): the declarations alone that the texts of the trees name. -/
namespace Go.Proofs.YtamhkdlcoghdbaaGreatDoor.PCls
open Go.RowKit Go.Shelf Go.Proofs.YtamhkdlcoghdbaaGreatDoorW.PrintWords Go.Proofs.YtamhkdlcoghdbaaGreatDoorW.PrintLast Go.Proofs.YtamhkdlcoghdbaaGreatDoorW.PrintMore
set_option linter.unusedVariables false
set_option linter.unusedSimpArgs false
theorem nin_km {W : World} {P : Nat → Prop} {t : NT} {cs : List Value} (h : NIn W P t cs) : ∃ (lo hi : Int) (ar ak : Option Addr) (lr cr ck : Nat), cs = [.int .i64 t.k, .int .i64 t.m, .int .i64 lo, .int .i64 hi, .slice ar lr cr, .slice ak t.kids.length ck] ∧ t.kids.length ≤ ck ∧ ∀ j k, t.kids[j]? = some k → ∃ (ad : Addr) (ds : List Value), ak = some ad ∧ P ad.block ∧ NIn W P k ds ∧ ∀ i u, ds[i]? = some u → W.cell? (ad.add (j * 6 + i)) = some u := by
 cases h with
 | mk k m lo hi r kids ar ak cr ck cs hr hrb hcr hrl hin hck hkl hk ha =>
  refine ⟨_, _, _, _, _, _, _, rfl, hck, fun j k hj => ?_⟩
  obtain ⟨ad, e, hP, hc⟩ := ha j (List.getElem?_eq_some_iff.1 hj).1
  exact ⟨ad, cs j, e, hP, hk j k hj, hc⟩
set_option maxHeartbeats 4000000 in
set_option maxRecDepth 100000 in
theorem pex_calls (w : World) (m : Int) (hm : w.cell? ⟨2, 0, none⟩ = some (.int .i64 m)) (h2 : 2 < w.heap.size) (hT : Lib.Utf8Tabs 0 1 w) :
  Calls Tryz.prog 17 #[] w fun e w' => e = .returned (.bool true) ∧ Below w.heap.size w w' := by
 have HL := Lib.hid (parse_calls w ⟨#[92, 40, 97, 92, 40, 98, 92, 41, 92, 41, 92, 50]⟩ false false m (by decide) hm h2 hT)
 rw [pex_ok] at HL
 have HW := Lib.hid (fun (w1 : World) (hb : Below w.heap.size w w1) (s : ByteArray) (c p : Int) hs h => pwrong_calls w1 s c p m hs ((hb.cell (p := ⟨2, 0, none⟩) h2).trans hm) (Nat.lt_of_lt_of_le h2 hb.size) (tabs_below hT hb) h)
 clear hm h2 hT
 go_enter Tryz.func17, Tryz.ntmps17
 go_wp2_with fail
 refine HL.out.mono ?_
 rintro e w1 ⟨hb, cs, rfl, hN⟩
 obtain ⟨lo, hi, ar, ak, lr, cr, ck, rfl, hck, hkid⟩ := nin_km hN
 obtain ⟨ad, ds0, rfl, hP0, hN0, hc0⟩ := hkid 0 _ rfl
 obtain ⟨ad', ds1, e1, _, hN1, hc1⟩ := hkid 1 _ rfl
 cases e1
 obtain ⟨_, _, _, _, _, _, _, rfl, _, _⟩ := nin_km hN0
 obtain ⟨_, _, _, _, _, _, _, rfl, _, _⟩ := nin_km hN1
 have k0 := hc0 0 _ rfl
 have k1 := hc1 1 _ rfl
 have HB := Lib.hid hb
 have hadl := hP0.2
 simp only [NT.k, NT.m, NT.kids, List.length_cons, List.length_nil, Nat.zero_add] at k0 k1 hck ⊢
 have hb0 := (Below.refl w1.heap.size w1).alloc (Nat.le_refl _) (.cells #[.int .i64 5, .int .i64 0, .int .i64 lo, .int .i64 hi, .slice ar lr cr, .slice (some ad) 2 ck] 43)
 have kA0 := (hb0.cell (p := ad) hadl).trans (show w1.cell? ad = some (.int .i64 7) by have h := k0; rw [Nat.zero_mul, Addr.add_zero'] at h; exact h)
 have kA1 := (hb0.cell (p := ad.add (1 * 6 + 1)) (by rw [add_block]; exact hadl)).trans k1
 rw [show 1 * 6 + 1 = 0 + 7 from rfl, add_at ad 0 7 (by decide), Addr.add_zero'] at kA1
 replace kA1 : (w1.alloc (.cells #[.int .i64 5, .int .i64 0, .int .i64 lo, .int .i64 hi, .slice ar lr cr, .slice (some ad) 2 ck] 43)).cell? ⟨ad.block, ad.off + 6 + 1, none⟩ = some (.int .i64 2) := kA1
 have HB0 := Lib.hid hb0
 have hb6 : (ad.add (1 * 6)).block < w1.heap.size := by rw [add_block]; exact hadl
 clear hc0 hc1 hN hN0 hN1 hkid hb HL k0 k1 hb0
 go_wp2_with fail
 have HBA := Lib.hid (Below.up HB.out HB0.out)
 refine (HW.out _ HBA.out _ _ _ (by decide) pex_a).mono ?_
 rintro e w2 ⟨rfl, hb⟩
 have HB2 := Lib.hid (Below.up HBA.out hb)
 clear hb kA0 kA1
 go_wp2_with fail
 refine (HW.out w2 HB2.out _ _ _ (by decide) pex_b).mono ?_
 rintro e w3 ⟨rfl, hb⟩
 have HB3 := Lib.hid (Below.up HB2.out hb)
 clear hb
 go_wp2_with fail
 refine (HW.out w3 HB3.out _ _ _ (by decide) pex_c).mono ?_
 rintro e w4 ⟨rfl, hb⟩
 have HB4 := Lib.hid (Below.up HB3.out hb)
 clear hb
 go_wp2_with fail
 go_ret
 exact ⟨rfl, HB4.out⟩
end Go.Proofs.YtamhkdlcoghdbaaGreatDoor.PCls
/- Out of THas (wip/tools/prune2.py): the declarations alone that the texts of the trees name. -/
namespace Go.Proofs.YtamhkdlcoghdbaaGreatDoor.PCls
open Go.RowKit Go.Proofs.YtamhkdlcoghdbaaGreatDoorW.PrintWords Go.Proofs.YtamhkdlcoghdbaaGreatDoorW.PrintLast Go.Proofs.YtamhkdlcoghdbaaGreatDoorW.PrintMore
set_option linter.unusedVariables false
set_option linter.unusedSimpArgs false
set_option maxHeartbeats 2000000 in
set_option maxRecDepth 100000 in
theorem index_calls (g n c : Nat) (v : Int) (xs : List Int) (w : World) (hn : xs.length = n) (hb : n < 4611686018427387904) (hc : ∀ (j : Nat) (x : Int), xs[j]? = some x → w.cell? ⟨g, j, none⟩ = some (.int .i64 x)) :
  Calls Tryz.prog 124 #[.slice (some ⟨g, 0, none⟩) n c, .int .i64 v] w fun e w' => ∃ r : Int, e = .returned (.int .i64 r) ∧ (0 ≤ r ↔ v ∈ xs) ∧ w' = w := by
 have HC := Lib.hid hc
 clear hc
 go_enter Tryz.func124, Tryz.ntmps124
 go_wp2_with fail
 go_loopg [8] n (fun gg s8 wr => ∃ (j : Nat), s8 = .int .i64 j ∧ j ≤ n ∧ n - j ≤ gg ∧ Aside0 (wr = w) ∧ Aside0 (∀ i, i < j → xs[i]? ≠ some v))
 case atStart => exact ⟨0, rfl, by omega, by omega, ⟨rfl⟩, ⟨fun i h => by omega⟩⟩
 case round =>
  obtain ⟨j, rfl, hj, hgg, HW, HI⟩ := hrel
  obtain rfl := HW.out
  by_cases hlt : j < n
  ·obtain ⟨x, hx⟩ : ∃ x, xs[j]? = some x := ⟨_, List.getElem?_eq_getElem (by omega)⟩
   have hx0 := HC.out j x hx
   have HX := Lib.hid hx
   have hlt' : (j : Int) < (n : Int) := by omega
   clear hx
   by_cases he : v = x
   ·subst he
    go_wp2
    go_ret
    exact ⟨_, rfl, ⟨fun _ => List.mem_of_getElem? HX.out, fun _ => by omega⟩, rfl⟩
   ·have he' : (v == x) = false := beq_eq_false_iff_ne.2 he
    have HE := Lib.hid he
    clear he
    go_wp2
    go_roundg (n - (j + 1))
    case measure => omega
    case rel => exact ⟨j + 1, congrArg (Value.int .i64) (by push_cast; rfl), by omega, Nat.le_refl _, ⟨rfl⟩, ⟨fun i hi => by
     rcases Nat.lt_or_ge i j with h | h
     ·exact HI.out i h
     ·obtain rfl : i = j := by omega
      rw [HX.out]
      intro e
      exact HE.out (Option.some.inj e).symm⟩⟩
  ·obtain rfl : j = n := by omega
   have hlt' : ¬ (j : Int) < (j : Int) := by omega
   go_wp2
   go_ret
   refine ⟨_, rfl, ⟨fun h => by omega, fun h => ?_⟩, rfl⟩
   obtain ⟨i, hi⟩ := List.getElem?_of_mem h
   have := (List.getElem?_eq_some_iff.1 hi).1
   exact absurd hi (HI.out i (by omega))
set_option maxHeartbeats 1000000 in
theorem indexNil_calls (c : Nat) (v : Int) (w : World) : Calls Tryz.prog 124 #[.slice none 0 c, .int .i64 v] w fun e w' => e = .returned (.int .i64 (-1)) ∧ w' = w := by
 go_enter Tryz.func124, Tryz.ntmps124
 go_wp2_with fail
 go_loopg [8] 0 (fun gg s8 wr => s8 = .int .i64 0 ∧ Aside0 (wr = w))
 case atStart => exact ⟨rfl, ⟨rfl⟩⟩
 case round =>
  obtain ⟨rfl, HW⟩ := hrel
  obtain rfl := HW.out
  go_wp2
  go_ret
  exact ⟨rfl, rfl⟩
set_option maxHeartbeats 1000000 in
theorem contains_calls (s : Value) (v : Int) (B : Bool) (w : World) (h : ∀ w1, w1 = w → Calls Tryz.prog 124 #[s, .int .i64 v] w1 fun e w' => ∃ r : Int, e = .returned (.int .i64 r) ∧ (0 ≤ r ↔ B = true) ∧ w' = w1) :
  Calls Tryz.prog 71 #[s, .int .i64 v] w fun e w' => e = .returned (.bool B) ∧ w' = w := by
 have H := Lib.hid h
 clear h
 go_enter Tryz.func71, Tryz.ntmps71
 go_wp2_with fail
 refine (H.out _ rfl).mono ?_
 rintro e w' ⟨r, rfl, hr, rfl⟩
 have HR := Lib.hid hr
 clear hr
 go_wp2
 go_ret
 exact ⟨congrArg (fun x => Ending.returned (Value.bool x)) (by rw [Bool.eq_iff_iff, ← HR.out]; simp), rfl⟩
theorem contains_own {base : Nat} {v : Value} {xs : List Int} {w : World} (ho : w.ownsRow base 3 1 v xs.length (xs.map (Value.int .i64))) (hb : xs.length < 4611686018427387904) (y : Int) :
  Calls Tryz.prog 71 #[v, .int .i64 y] w fun e w' => e = .returned (.bool (xs.contains y)) ∧ w' = w := by
 refine contains_calls v y _ w ?_
 rintro w1 rfl
 rcases ho.2 with ⟨rfl, h0⟩ | ⟨g, cap, cur, rfl, _⟩
 ·rw [List.length_eq_zero_iff] at h0
  subst h0
  refine (indexNil_calls 0 y w1).mono ?_
  rintro e w' ⟨rfl, rfl⟩
  exact ⟨_, rfl, by simp, rfl⟩
 ·refine (index_calls g xs.length cap y xs w1 rfl hb (fun j x hx => ?_)).mono ?_
  ·have := ho.cells (g := g) rfl j (Value.int .i64 x) (by rw [List.getElem?_map, hx]; rfl)
   rwa [add_plain] at this
  ·rintro e w' ⟨r, rfl, hr, rfl⟩
   exact ⟨r, rfl, by rw [hr]; simp, rfl⟩
end Go.Proofs.YtamhkdlcoghdbaaGreatDoor.PCls
