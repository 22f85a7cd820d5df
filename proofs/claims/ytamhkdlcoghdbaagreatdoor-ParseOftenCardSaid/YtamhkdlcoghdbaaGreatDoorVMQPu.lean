/- Put together (wip/tools/pack.py): QPu, QPv, QTRight1, QTRight2, QTLaw, QTRight, QPx, QPw, QTAll. -/
import Derived.Test.YtamhkdlcoghdbaaGreatDoorVQPs
/- Out of Pu (wip/tools/prune2.py): the declarations alone that the texts of the trees name. -/
namespace Go.Proofs.YtamhkdlcoghdbaaGreatDoor.PCls
open Go.RowKit Go.Shelf Go.Proofs.YtamhkdlcoghdbaaGreatDoorW.PrintWords Go.Proofs.YtamhkdlcoghdbaaGreatDoorW.PrintLast Go.Proofs.YtamhkdlcoghdbaaGreatDoorW.PrintMore
set_option linter.unusedVariables false
set_option linter.unusedSimpArgs false
set_option maxHeartbeats 4000000 in
set_option maxRecDepth 100000 in
theorem ptold_some (w : World) (g : Nat) (c p : Int) (hg : w.heap[g]? = some (.cells #[.int .i64 c, .int .i64 p] 78 (0, 0))) :
    Calls Tryz.prog 20 #[.iface 71 (.pointer (some ⟨g, 0, none⟩))] w fun e w' => e = .returned (.tuple #[.int .i64 c, .int .i64 p, .bool true]) ∧ Below w.heap.size w w' := by
  have hta : ∀ w', (Instr.typeAssert (.iface 71 (.pointer (some ⟨g, 0, none⟩))) 29 71 true).run Tryz.prog w' = .ok (.tuple #[.pointer (some ⟨g, 0, none⟩), .bool true]) w' := fun w' => run_asserted2 71 29 _ _ w' Tryz.underlying71
  have k0 := lk_cell (i := 0) hg rfl
  have k1 := lk_cell (i := 1) hg rfl
  have hgl : g < w.heap.size := (Array.getElem?_eq_some_iff.1 hg).1
  go_enter Tryz.func20, Tryz.ntmps20
  go_wp2_with fail
  refine go_start (fun w' => Below w.heap.size w w') [] [.p 0, .p 1, .p 2, .t 3, .p 4, .p 5, .p 6, .t 7, .p 8, .p 9, .p 10] (by kernel_rfl) (by kernel_rfl) (fun c d v a w h => by cases d <;> exact h) ((Below.refl _ w).drew) (fun w2 hS2 => ?_)
  repeat first
  | refine go_p (v := ?_) (b := ?_) rfl (.inl ⟨by rfl, ?_⟩) ?_ ?_
    rotate_left 2
    · intro w'; go_simp; with_reducible rfl
    · simp only [Act.put, pu_, pz_, ps_, i64_w, i32_w]; rfl
  | refine go_t (v := ?_) (b := ?_) rfl (.inl ⟨by rfl, ?_⟩) ?_ ?_
    rotate_left 2
    · intro w' hS; have hc := Below.cells hS; go_simp; with_reducible rfl
    · simp only [Act.put, pu_, pz_, ps_, i64_w, i32_w]; rfl
  refine go_done ?_
  go_wp2_with fail
  go_ret3
  exact ⟨rfl, hS2⟩
theorem pex_ok : parseS ⟨#[92, 40, 97, 92, 40, 98, 92, 41, 92, 41, 92, 50]⟩ false false = .ok (.mk 5 0 0 0 [] [.mk 7 1 0 0 [] [.mk 5 0 0 0 [] [.mk 2 0 0 0 [⟨97, 97⟩] [], .mk 7 2 0 0 [] [.mk 2 0 0 0 [⟨98, 98⟩] []]]], .mk 8 2 0 0 [] []]) := by kernel_rfl
theorem pex_a : parseS ⟨#[97, 92, 41]⟩ false false = .error (40, 1) := by kernel_rfl
theorem pex_b : parseS ⟨#[92, 40, 92, 40, 97, 92, 41]⟩ false false = .error (39, 0) := by kernel_rfl
theorem pex_c : parseS ⟨#[92, 50, 92, 40, 97, 92, 41]⟩ false false = .error (41, 0) := by kernel_rfl
set_option maxHeartbeats 4000000 in
set_option maxRecDepth 100000 in
theorem pwrong_calls (w : World) (s : ByteArray) (c p m : Int) (hs : s.size ≤ 140737488351232) (hm : w.cell? ⟨2, 0, none⟩ = some (.int .i64 m)) (h2 : 2 < w.heap.size) (hT : Lib.Utf8Tabs 0 1 w) (h : parseS s false false = .error (c, p)) :
    Calls Tryz.prog 44 #[.string s, .int .i64 c, .int .i64 p] w fun e w' => e = .returned (.bool true) ∧ Below w.heap.size w w' := by
  have HL := Lib.hid (parse_calls w s false false m hs hm h2 hT)
  rw [h] at HL
  clear hm h2 hT h
  go_enter Tryz.func44, Tryz.ntmps44
  go_wp2_with fail
  refine HL.out.mono ?_
  rintro e w1 ⟨hb, g, rfl, hg, hgc⟩
  have hb0 := (Below.refl w1.heap.size w1).alloc (Nat.le_refl _) (.cells #[.int .i64 0, .int .i64 0, .int .i64 0, .int .i64 0, .slice none 0 0, .slice none 0 0] 43)
  have HB := Lib.hid (And.intro hb hb0)
  have HT := Lib.hid (ptold_some (w1.alloc (.cells #[.int .i64 0, .int .i64 0, .int .i64 0, .int .i64 0, .slice none 0 0, .slice none 0 0] 43)) g c p ((hb0.block g (blk_lt hgc)).trans hgc))
  clear hb hb0 hg hgc HL
  go_wp2_with fail
  refine HT.out.mono ?_
  rintro e w2 ⟨rfl, hb⟩
  have hk := (hb.block w1.heap.size (by simp)).trans (heap_alloc_new w1 _)
  have c0 := lk_cell (i := 0) hk rfl
  have hl := blk_lt hk
  have HB2 := Lib.hid (HB.out.1.trans ((Below.up HB.out.2 hb).mono HB.out.1.size))
  clear hb HT hk
  go_wp2_with fail
  go_ret
  exact ⟨rfl, HB2.out⟩
end Go.Proofs.YtamhkdlcoghdbaaGreatDoor.PCls
/- Out of Pv (wip/tools/prune2.py): the declarations alone that the texts of the trees name. -/
namespace Go.Proofs.YtamhkdlcoghdbaaGreatDoor.PCls
open Go.RowKit Go.Shelf Go.Proofs.YtamhkdlcoghdbaaGreatDoorW.PrintWords Go.Proofs.YtamhkdlcoghdbaaGreatDoorW.PrintLast Go.Proofs.YtamhkdlcoghdbaaGreatDoorW.PrintMore
set_option linter.unusedVariables false
set_option linter.unusedSimpArgs false
theorem nin_km {W : World} {P : Nat → Prop} {t : NT} {cs : List Value} (h : NIn W P t cs) : ∃ (lo hi : Int) (ar ak : Option Addr) (lr cr ck : Nat), cs = [.int .i64 t.k, .int .i64 t.m, .int .i64 lo, .int .i64 hi, .slice ar lr cr, .slice ak t.kids.length ck] ∧ t.kids.length ≤ ck ∧ ∀ j k, t.kids[j]? = some k → ∃ (ad : Addr) (ds : List Value), ak = some ad ∧ P ad.block ∧ NIn W P k ds ∧ ∀ i u, ds[i]? = some u → W.cell? (ad.add (j * 6 + i)) = some u := by
 cases h with
 | mk k m lo hi r kids ar ak cr ck cs hr hrb hcr hrl hin hck hkl hk ha =>
  refine ⟨_, _, _, _, _, _, _, rfl, hck, fun j k hj => ?_⟩
  obtain ⟨ad, e, hP, hc⟩ := ha j (List.getElem?_eq_some_iff.1 hj).1
  exact ⟨ad, cs j, e, hP, hk j k hj, hc⟩
set_option maxHeartbeats 4000000 in
set_option maxRecDepth 100000 in
theorem pex_calls (w : World) (m : Int) (hm : w.cell? ⟨2, 0, none⟩ = some (.int .i64 m)) (h2 : 2 < w.heap.size) (hT : Lib.Utf8Tabs 0 1 w) :
  Calls Tryz.prog 17 #[] w fun e w' => e = .returned (.bool true) ∧ Below w.heap.size w w' := by
 have HL := Lib.hid (parse_calls w ⟨#[92, 40, 97, 92, 40, 98, 92, 41, 92, 41, 92, 50]⟩ false false m (by decide) hm h2 hT)
 rw [pex_ok] at HL
 have HW := Lib.hid (fun (w1 : World) (hb : Below w.heap.size w w1) (s : ByteArray) (c p : Int) hs h => pwrong_calls w1 s c p m hs ((hb.cell (p := ⟨2, 0, none⟩) h2).trans hm) (Nat.lt_of_lt_of_le h2 hb.size) (tabs_below hT hb) h)
 clear hm h2 hT
 go_enter Tryz.func17, Tryz.ntmps17
 go_wp2_with fail
 refine HL.out.mono ?_
 rintro e w1 ⟨hb, cs, rfl, hN⟩
 obtain ⟨lo, hi, ar, ak, lr, cr, ck, rfl, hck, hkid⟩ := nin_km hN
 obtain ⟨ad, ds0, rfl, hP0, hN0, hc0⟩ := hkid 0 _ rfl
 obtain ⟨ad', ds1, e1, _, hN1, hc1⟩ := hkid 1 _ rfl
 cases e1
 obtain ⟨_, _, _, _, _, _, _, rfl, _, _⟩ := nin_km hN0
 obtain ⟨_, _, _, _, _, _, _, rfl, _, _⟩ := nin_km hN1
 have k0 := hc0 0 _ rfl
 have k1 := hc1 1 _ rfl
 have HB := Lib.hid hb
 have hadl := hP0.2
 simp only [NT.k, NT.m, NT.kids, List.length_cons, List.length_nil, Nat.zero_add] at k0 k1 hck ⊢
 have hb0 := (Below.refl w1.heap.size w1).alloc (Nat.le_refl _) (.cells #[.int .i64 5, .int .i64 0, .int .i64 lo, .int .i64 hi, .slice ar lr cr, .slice (some ad) 2 ck] 43)
 have kA0 := (hb0.cell (p := ad) hadl).trans (show w1.cell? ad = some (.int .i64 7) by have h := k0; rw [Nat.zero_mul, Addr.add_zero'] at h; exact h)
 have kA1 := (hb0.cell (p := ad.add (1 * 6 + 1)) (by rw [add_block]; exact hadl)).trans k1
 rw [show 1 * 6 + 1 = 0 + 7 from rfl, add_at ad 0 7 (by decide), Addr.add_zero'] at kA1
 replace kA1 : (w1.alloc (.cells #[.int .i64 5, .int .i64 0, .int .i64 lo, .int .i64 hi, .slice ar lr cr, .slice (some ad) 2 ck] 43)).cell? ⟨ad.block, ad.off + 6 + 1, none⟩ = some (.int .i64 2) := kA1
 have HB0 := Lib.hid hb0
 have hb6 : (ad.add (1 * 6)).block < w1.heap.size := by rw [add_block]; exact hadl
 clear hc0 hc1 hN hN0 hN1 hkid hb HL k0 k1 hb0
 go_wp2_with fail
 have HBA := Lib.hid (Below.up HB.out HB0.out)
 refine (HW.out _ HBA.out _ _ _ (by decide) pex_a).mono ?_
 rintro e w2 ⟨rfl, hb⟩
 have HB2 := Lib.hid (Below.up HBA.out hb)
 clear hb kA0 kA1
 go_wp2_with fail
 refine (HW.out w2 HB2.out _ _ _ (by decide) pex_b).mono ?_
 rintro e w3 ⟨rfl, hb⟩
 have HB3 := Lib.hid (Below.up HB2.out hb)
 clear hb
 go_wp2_with fail
 refine (HW.out w3 HB3.out _ _ _ (by decide) pex_c).mono ?_
 rintro e w4 ⟨rfl, hb⟩
 have HB4 := Lib.hid (Below.up HB3.out hb)
 clear hb
 go_wp2_with fail
 go_ret
 exact ⟨rfl, HB4.out⟩
end Go.Proofs.YtamhkdlcoghdbaaGreatDoor.PCls
/- Out of TRight1 (wip/tools/prune2.py): the declarations alone that the texts of the trees name. -/
namespace Go.Proofs.YtamhkdlcoghdbaaGreatDoor.PCls
open Go.RowKit Go.Proofs.YtamhkdlcoghdbaaGreatDoorW.PrintWords Go.Proofs.YtamhkdlcoghdbaaGreatDoorW.PrintLast Go.Proofs.YtamhkdlcoghdbaaGreatDoorW.PrintMore
set_option linter.unusedVariables false
set_option linter.unusedSimpArgs false
/-- what lies in Right's boxes -/
structure RK (N0 : Nat) (chars fold : Bool) (wrong many groups : Int) (ended : List Int) (w W : World) : Prop where
 bw : Boxed W (N0 + 2) 54 (.int .i64 wrong)
 bm : Boxed W (N0 + 3) 3 (.int .i64 many)
 bg : Boxed W (N0 + 4) 3 (.int .i64 groups)
 be : ∃ v, Boxed W (N0 + 5) 116 v ∧ W.ownsRow (N0 + 6) 3 1 v ended.length (ended.map (Value.int .i64))
 bo : W.heap[N0 + 1]? = some (.cells #[.bool chars, .bool fold] 23 (0, 0))
 kp : KeepsT N0 w W
 sz : N0 + 6 ≤ W.heap.size
theorem RK.below {N0 : Nat} {chars fold : Bool} {wrong many groups : Int} {ended : List Int} {w A B : World} (h : RK N0 chars fold wrong many groups ended w A) (hb : Below A.heap.size A B) : RK N0 chars fold wrong many groups ended w B := by
 obtain ⟨v, hv, ho⟩ := h.be
 have hs := h.sz
 exact ⟨boxed_keep h.bw hb, boxed_keep h.bm hb, boxed_keep h.bg hb, ⟨v, boxed_keep hv hb, own_move ho (fun k hk => hb.block k (ho.lt k hk).2)⟩, (hb.block _ (by omega)).trans h.bo, h.kp.trans (KeepsT.of_below hb (by omega)), Nat.le_trans h.sz hb.size⟩
theorem RK.alloc {N0 : Nat} {chars fold : Bool} {wrong many groups : Int} {ended : List Int} {w A : World} (h : RK N0 chars fold wrong many groups ended w A) (o : Obj) : RK N0 chars fold wrong many groups ended w (A.alloc o) := h.below ((Below.refl _ A).alloc (Nat.le_refl _) o)
theorem RK.drewN {N0 : Nat} {chars fold : Bool} {wrong many groups : Int} {ended : List Int} {w A : World} (h : RK N0 chars fold wrong many groups ended w A) (n : Nat) : RK N0 chars fold wrong many groups ended w (A.drewN n) := h.below (wN (Below.refl _ A) n)
theorem boxed_other {A : World} {b c : Nat} {t : TypeId} {v u : Value} (h : Boxed A b t v) (hne : b ≠ c) : Boxed (A.setCell ⟨c, 0, none⟩ u) b t v := (Below.heap_setCell A ⟨c, 0, none⟩ u b hne).trans h
theorem own_other {A : World} {base c : Nat} {t : TypeId} {v u : Value} {xs : List Value} {n : Nat} (h : A.ownsRow base t 1 v n xs) (hc : c < base) : (A.setCell ⟨c, 0, none⟩ u).ownsRow base t 1 v n xs :=
 own_move h (fun k hk => Below.heap_setCell A ⟨c, 0, none⟩ u k (by have := (h.lt k hk).1; simp only; omega))
end Go.Proofs.YtamhkdlcoghdbaaGreatDoor.PCls
/- Out of TRight2 (wip/tools/prune2.py): the declarations alone that the texts of the trees name. -/
namespace Go.Proofs.YtamhkdlcoghdbaaGreatDoor.PCls
open Go.RowKit Go.Proofs.YtamhkdlcoghdbaaGreatDoorW.PrintWords Go.Proofs.YtamhkdlcoghdbaaGreatDoorW.PrintLast Go.Proofs.YtamhkdlcoghdbaaGreatDoorW.PrintMore
set_option linter.unusedVariables false
set_option linter.unusedSimpArgs false
theorem RK.appended {N0 : Nat} {chars fold : Bool} {wrong many groups : Int} {ended ended' : List Int} {w A B : World} {v v' : Value} {tmp : Obj} (h : RK N0 chars fold wrong many groups ended w A)
  (hv : Boxed A (N0 + 5) 116 v) (ho : A.ownsRow (N0 + 6) 3 1 v ended.length (ended.map (Value.int .i64))) (hg : (A.alloc tmp).grownBy B v.ownBlock) (ho' : B.ownsRow (N0 + 6) 3 1 v' ended'.length (ended'.map (Value.int .i64))) :
  RK N0 chars fold wrong many groups ended' w (B.setCell ⟨N0 + 5, 0, none⟩ v') ∧ Boxed B (N0 + 5) 116 v := by
 have hs := h.sz
 have hne : ∀ b, b < N0 + 6 → some b ≠ v.ownBlock := by
  intro b hb e
  have := ho.lt b e.symm
  omega
 have hb : ∀ b, b < N0 + 6 → B.heap[b]? = A.heap[b]? := fun b hb' => (hg.block b (by simp; omega) (hne b hb')).trans (Below.heap_alloc _ _ _ (by omega))
 have hsz : A.heap.size ≤ B.heap.size := by have := hg.size; simp at this; omega
 have hk : KeepsT N0 A B := ⟨hg.os, hg.tape, hg.output, hsz, fun b hb' => hb b (by omega), fun b cells t fr hc ht => by
  have hlt := (Array.getElem?_eq_some_iff.1 hc).1
  refine (hg.block b (by simp; omega) (fun e => ?_)).trans (Below.heap_alloc _ _ _ hlt)
  obtain ⟨cs, hcs⟩ := own_typed ho b e.symm
  rw [hc] at hcs
  cases hcs
  rcases ht with h | h <;> exact absurd h (by decide)⟩
 have hbox : Boxed B (N0 + 5) 116 v := (hb _ (by omega)).trans hv
 exact ⟨⟨boxed_other ((hb _ (by omega)).trans h.bw) (by omega), boxed_other ((hb _ (by omega)).trans h.bm) (by omega), boxed_other ((hb _ (by omega)).trans h.bg) (by omega), ⟨v', hbox.set v', own_other ho' (by omega)⟩,
  (Below.heap_setCell _ _ _ _ (by simp only; omega)).trans ((hb _ (by omega)).trans h.bo), (h.kp.trans hk).setCell (p := ⟨N0 + 5, 0, none⟩) (by simp only; omega) hbox (by decide) _, by simp [World.setCell]; omega⟩, hbox⟩
end Go.Proofs.YtamhkdlcoghdbaaGreatDoor.PCls
/- Out of TLaw (wip/tools/prune2.py): the declarations alone that the texts of the trees name. -/
namespace Go.Proofs.YtamhkdlcoghdbaaGreatDoor.PCls
open Go.RowKit
set_option linter.unusedVariables false
set_option linter.unusedSimpArgs false
def groupsIn (l : List Step) : Nat := (l.filter fun s => decide (s.n.k = 7)).length
end Go.Proofs.YtamhkdlcoghdbaaGreatDoor.PCls
/- Out of TRight (wip/tools/prune2.py): the declarations alone that the texts of the trees name. -/
namespace Go.Proofs.YtamhkdlcoghdbaaGreatDoor.PCls
open Go.RowKit Go.Proofs.YtamhkdlcoghdbaaGreatDoorW.PrintWords Go.Proofs.YtamhkdlcoghdbaaGreatDoorW.PrintLast Go.Proofs.YtamhkdlcoghdbaaGreatDoorW.PrintMore
set_option linter.unusedVariables false
set_option linter.unusedSimpArgs false
theorem RK.start {N0 : Nat} {chars fold : Bool} {wrong many groups : Int} {ended : List Int} {w0 w A : World} (h : RK N0 chars fold wrong many groups ended w0 A) (hn : N0 ≤ A.heap.size) : RK N0 chars fold wrong many groups ended A A :=
 ⟨h.bw, h.bm, h.bg, h.be, h.bo, KeepsT.of_below (Below.refl _ A) hn, h.sz⟩
end Go.Proofs.YtamhkdlcoghdbaaGreatDoor.PCls
/- Out of Px (wip/tools/prune2.py): the declarations alone that the texts of the trees name. -/
namespace Go.Proofs.YtamhkdlcoghdbaaGreatDoor.PCls
open Go.RowKit Go.Shelf Go.Proofs.YtamhkdlcoghdbaaGreatDoorW.PrintWords Go.Proofs.YtamhkdlcoghdbaaGreatDoorW.PrintLast Go.Proofs.YtamhkdlcoghdbaaGreatDoorW.PrintMore
set_option linter.unusedVariables false
set_option linter.unusedSimpArgs false
/-- where the open groups stand -/
def PlB (N : Int) (m : MS) : Prop := ∀ g, g ∈ m.top :: m.below → 0 ≤ g.pl ∧ g.pl ≤ N
theorem PlB.step {N : Int} {m m' : MS} {t : Tok} (h : PlB N m) (ht : 0 ≤ t.sat ∧ t.sat ≤ N) (hm : m.tok t = .ok m') : PlB N m' := by
 have htop := h m.top List.mem_cons_self
 have hput : ∀ p, PlB N (m.put p) := fun p g hg => by
  rcases List.mem_cons.1 hg with rfl | hg
  ·exact htop
  ·exact h g (List.mem_cons_of_mem _ hg)
 unfold MS.tok at hm
 split at hm
 ·split at hm
  ·cases hm
  ·cases hm
   intro g hg
   rcases List.mem_cons.1 hg with rfl | hg
   ·exact ht
   ·exact h g hg
 split at hm
 ·split at hm
  ·cases hm
  ·rename_i g b hb
   cases hm
   intro g' hg
   rcases List.mem_cons.1 hg with rfl | hg
   ·exact h g (by rw [hb]; simp)
   ·exact h g' (by rw [hb]; simp [hg])
 split at hm
 ·cases hm
  intro g hg
  rcases List.mem_cons.1 hg with rfl | hg
  ·exact htop
  ·exact h g (List.mem_cons_of_mem _ hg)
 split at hm
 ·split at hm
  ·cases hm
  ·cases hm
   intro g hg
   rcases List.mem_cons.1 hg with rfl | hg
   ·exact htop
   ·exact h g (List.mem_cons_of_mem _ hg)
 split at hm
 ·split at hm
  ·cases hm; exact hput _
  ·cases hm
 split at hm
 ·cases hm; exact hput _
 split at hm
 ·cases hm; exact hput _
 ·cases hm; exact hput _
end Go.Proofs.YtamhkdlcoghdbaaGreatDoor.PCls
/- Out of Pw (wip/tools/prune2.py): the declarations alone that the texts of the trees name. -/
namespace Go.Proofs.YtamhkdlcoghdbaaGreatDoor.PCls
open Go.RowKit Go.Shelf Go.Proofs.YtamhkdlcoghdbaaGreatDoorW.PrintWords Go.Proofs.YtamhkdlcoghdbaaGreatDoorW.PrintLast Go.Proofs.YtamhkdlcoghdbaaGreatDoorW.PrintMore
set_option linter.unusedVariables false
set_option linter.unusedSimpArgs false
theorem altT_one {t : NT} (h : t.k ≠ 6) : altT [t] = t := by
 unfold altT altOut
 simp [altOne, h, oneT]
end Go.Proofs.YtamhkdlcoghdbaaGreatDoor.PCls
/- Out of TAll (wip/tools/prune2.py): the declarations alone that the texts of the trees name. -/
namespace Go.Proofs.YtamhkdlcoghdbaaGreatDoor.PCls
open Go.RowKit Go.Shelf Go.Proofs.YtamhkdlcoghdbaaGreatDoorW.PrintWords Go.Proofs.YtamhkdlcoghdbaaGreatDoorW.PrintLast Go.Proofs.YtamhkdlcoghdbaaGreatDoorW.PrintMore
set_option linter.unusedVariables false
set_option linter.unusedSimpArgs false
attribute [local go_sem] Oper.semAt_some
/-- what has come, and whether it was said that no more is wanted -/
structure SA where
 pre : List Step
 out : Bool
def visA (go : List Step → Step → Bool) (st : SA) (s : Step) : Bool × SA := if st.pre.length = 2000 then (false, st) else (go st.pre s, ⟨st.pre ++ [s], !go st.pre s⟩)
theorem all_ok (go : List Step → Step → Bool) (xs : List Step) : ∀ (l : List Ev) (pre : List Step), pre.length ≤ 2000 → xs = pre ++ (enters l).take (2000 - pre.length) →
  runOk (visA go) lvN (fun st s => st.out = false ∧ st.pre.length ≤ 2000 ∧ (st.pre.length ≠ 2000 → st.pre ++ [s] <+: xs)) (fun _ _ => True) l ⟨pre, false⟩ ∧
   (((run (visA go) lvN l ⟨pre, false⟩).2.out = false ∧ (run (visA go) lvN l ⟨pre, false⟩).2.pre = xs) ∨ ((run (visA go) lvN l ⟨pre, false⟩).2.out = true ∧ (run (visA go) lvN l ⟨pre, false⟩).2.pre <+: xs)) := by
 intro l
 induction l with
 | nil => intro pre _ hx; exact ⟨trivial, .inl ⟨rfl, by rw [hx]; simp [run, enters]⟩⟩
 | cons x l ih =>
  intro pre hn hx
  cases x with
  | leave t => exact ⟨⟨trivial, (ih pre hn hx).1⟩, (ih pre hn hx).2⟩
  | enter t =>
   by_cases h : pre.length = 2000
   ·have hv : visA go ⟨pre, false⟩ t = (false, ⟨pre, false⟩) := by unfold visA; rw [if_pos h]
    refine ⟨⟨⟨rfl, hn, fun g => absurd h g⟩, fun g => by rw [hv] at g; simp at g⟩, .inl ?_⟩
    rw [run_stop (by rw [hv]), hv]
    exact ⟨rfl, by rw [hx, h]; simp⟩
   ·have hx2 : xs = (pre ++ [t]) ++ (enters l).take (2000 - (pre ++ [t]).length) := by
     rw [hx, List.length_append, List.length_singleton]
     obtain ⟨d, hd⟩ : ∃ d, 2000 - pre.length = d + 1 := ⟨2000 - pre.length - 1, by omega⟩
     rw [hd, show 2000 - (pre.length + 1) = d by omega]
     simp [enters]
    have hpre : pre ++ [t] <+: xs := ⟨_, hx2.symm⟩
    have hv : visA go ⟨pre, false⟩ t = (go pre t, ⟨pre ++ [t], !go pre t⟩) := by unfold visA; rw [if_neg h]
    cases hg : go pre t
    ·rw [hg] at hv
     refine ⟨⟨⟨rfl, hn, fun _ => hpre⟩, fun g => by rw [hv] at g; simp at g⟩, .inr ?_⟩
     rw [run_stop (by rw [hv]), hv]
     exact ⟨rfl, hpre⟩
    ·rw [hg] at hv
     have := ih (pre ++ [t]) (by simp; omega) hx2
     refine ⟨⟨⟨rfl, hn, fun _ => hpre⟩, fun _ => by rw [hv]; exact this.1⟩, ?_⟩
     rw [run_enter (by rw [hv]), hv]
     exact this.2
theorem boxed_other2 {A : World} {b c : Nat} {t : TypeId} {v u : Value} (h : Boxed A b t v) (hne : b ≠ c) : Boxed (A.setCell ⟨c, 0, none⟩ u) b t v := (Below.heap_setCell A ⟨c, 0, none⟩ u b hne).trans h
/-- what a round is handed of a node: how deep, and the node without its kids, its ranges in memory of their own -/
def EA (B1 : Nat) (s : Step) (W : World) (vs : Array Value) : Prop := ∃ (A : Option Addr) (c : Nat), vs = #[.int .i64 s.deep, .agg #[.int .i64 s.n.k, .int .i64 s.n.m, .int .i64 s.n.lo, .int .i64 s.n.hi, .slice A s.n.r.length c, .slice none 0 0]] ∧ Kd.R k64 39 W B1 (fun _ => True) (.slice A s.n.r.length c) s.n.r
set_option maxHeartbeats 4000000 in
set_option maxRecDepth 100000 in
theorem all_visit (lo B1 l : Nat) (J Jx : List Step → World → Prop) (W1 : World) (hB1 : B1 = W1.heap.size) (hlo : lo ≤ B1) (go : List Step → Step → Bool) (xs : List Step)
  (hJ : ∀ s A B, J s A → Below B1 A B → J s B)
  (hY : ∀ (m : Nat) (pre : List Step) (x : Step) (vs : Array Value) (A : World), pre ++ [x] <+: xs → J pre A → EA B1 x A vs → YieldAt Fence.wide m Tryz.prog l vs A fun e B =>
   e = .returned (.bool (go pre x)) ∧ (go pre x = true → J (pre ++ [x]) B ∧ KeptBut lo B1 A B) ∧ (go pre x = false → Jx (pre ++ [x]) B ∧ A.heap.size ≤ B.heap.size))
  (k m lo_ hi d a : Int) (r : List S64) (kids : List NT) (ar ak : Option Addr) (cr ck : Nat) (f la b : Bool) (pre : List Step) (w : World)
  (hr : Kd.C k64 w ar r.length r) (hrb : ∀ ad, ar = some ad → r ≠ [] → ad.block < lo) (hcr : r.length ≤ cr) (hrl : r.length < 2097152) (hpre : pre.length ≠ 2000 → pre ++ [⟨.mk k m lo_ hi r kids, d, a, f, la, b⟩] <+: xs) (hlen : pre.length ≤ 2000)
  (hj : J pre w) (hm : Boxed w (B1 + 1) 3 (.int .i64 pre.length)) (hy : Boxed w B1 163 (.func (.yield l) #[] #[])) :
  Calls Tryz.prog 113 #[.agg #[.int .i64 k, .int .i64 m, .int .i64 lo_, .int .i64 hi, .slice ar r.length cr, .slice ak kids.length ck, .int .i64 d, .int .i64 a, .bool f, .bool la, .bool b], .pointer (some ⟨B1 + 1, 0, none⟩), .pointer (some ⟨B1, 0, none⟩)] w
   fun e w' => (pre.length = 2000 ∧ e = .returned (.bool false) ∧ Below w.heap.size w w') ∨
    (pre.length ≠ 2000 ∧ e = .returned (.bool (go pre ⟨.mk k m lo_ hi r kids, d, a, f, la, b⟩)) ∧ (go pre ⟨.mk k m lo_ hi r kids, d, a, f, la, b⟩ = true → J (pre ++ [⟨.mk k m lo_ hi r kids, d, a, f, la, b⟩]) w' ∧ KeptBut lo (B1 + 2) w w' ∧ Boxed w' (B1 + 1) 3 (.int .i64 ((pre.length : Int) + 1)) ∧ Boxed w' B1 163 (.func (.yield l) #[] #[])) ∧
     (go pre ⟨.mk k m lo_ hi r kids, d, a, f, la, b⟩ = false → Jx (pre ++ [⟨.mk k m lo_ hi r kids, d, a, f, la, b⟩]) w' ∧ w.heap.size ≤ w'.heap.size)) := by
 have HM := Lib.hid hm
 have HY := Lib.hid hy
 have HJ := Lib.hid hJ
 have HYY := Lib.hid hY
 have HP := Lib.hid hpre
 have HB1 := Lib.hid hB1
 have HR := Lib.hid hr
 have HRB := Lib.hid hrb
 have HL := Lib.hid hrl
 have HC := Lib.hid hcr
 have HJJ := Lib.hid hj
 have HLO := Lib.hid hlo
 clear hJ hY hpre hB1 hr hrb hrl hcr hj hlo
 by_cases h : pre.length = 2000
 ·have cm := hm.cell
  have lm := hm.lt
  rw [h] at cm
  have H := Lib.hid h
  clear hm hy h hlen
  go_enter Tryz.func113, Tryz.ntmps113
  go_wp2
  go_ret
  exact .inl ⟨H.out, rfl, (Below.refl _ w).alloc (Nat.le_refl _) _⟩
 ·have cm := hm.cell
  have fm := hm.frozen
  have lm := hm.lt
  have cy := hy.cell
  have ly := hy.lt
  have hne : ((pre.length : Int) == 2000) = false := beq_eq_false_iff_ne.2 (by omega)
  have hwr : wrap64 ((pre.length : Int) + 1) = (pre.length : Int) + 1 := w64_lit _ (by omega) (by omega)
  have H := Lib.hid h
  clear hm hy h hlen
  refine (callsIn_wide (n := 9)).1 ?_
  refine callsIn_of_wp Tryz.func113 rfl trivial ?_ rfl
  simp only [Tryz.ntmps113, List.size_toArray, List.length_cons, List.length_nil, Nat.reduceAdd, Nat.reduceSub, Array.replicate_succ, Array.replicate_zero, List.push_toArray, List.append_toArray, List.nil_append, List.cons_append]
  gi_wp2_with fail
  obtain ⟨Wb, hWb⟩ : ∃ Wb, Wb = (w.setCell ⟨B1 + 1, 0, none⟩ (.int .i64 ((pre.length : Int) + 1))).alloc (.cells #[.int .i64 k, .int .i64 m, .int .i64 lo_, .int .i64 hi, .slice ar r.length cr, .slice none 0 0, .int .i64 d, .int .i64 a, .bool f, .bool la, .bool b] 121) := ⟨_, rfl⟩
  rw [← hWb]
  have hszb : Wb.heap.size = w.heap.size + 1 := by rw [hWb]; simp [World.setCell]
  have hbB : Below B1 w Wb := by rw [hWb]; exact ((Below.refl B1 w).setCell (p := ⟨B1 + 1, 0, none⟩) (by simp only; omega) _).alloc (by simp [World.setCell]; omega) _
  have hmb : Boxed Wb (B1 + 1) 3 (.int .i64 ((pre.length : Int) + 1)) := by rw [hWb]; exact (HM.out.set _).alloc _
  have hyb : Boxed Wb B1 163 (.func (.yield l) #[] #[]) := by rw [hWb]; exact (boxed_other2 HY.out (by omega)).alloc _
  have hsb : Wb.heap[w.heap.size]? = some (.cells #[.int .i64 k, .int .i64 m, .int .i64 lo_, .int .i64 hi, .slice ar r.length cr, .slice none 0 0, .int .i64 d, .int .i64 a, .bool f, .bool la, .bool b] 121 (0, 0)) := by
   have := World.alloc_heap_new (w.setCell ⟨B1 + 1, 0, none⟩ (.int .i64 ((pre.length : Int) + 1))) (.cells #[.int .i64 k, .int .i64 m, .int .i64 lo_, .int .i64 hi, .slice ar r.length cr, .slice none 0 0, .int .i64 d, .int .i64 a, .bool f, .bool la, .bool b] 121)
   rw [hWb]
   simpa [World.setCell] using this
  have hkb : KeptBut lo (B1 + 2) w Wb := by
   rw [hWb]
   exact ((KeptBut.refl lo (B1 + 2) w).setCell (p := ⟨B1 + 1, 0, none⟩) (by have := HLO.out; simp only; omega) (by simp only; omega) _).trans (KeptBut.of_below ((Below.refl _ _).alloc (Nat.le_refl _) _))
  have hcl := api_Range_89.calls ar cr r r Wb (C_move (P := (· < lo)) HR.out HRB.out (fun x hx => hbB.block x (by have := HLO.out; omega))) HC.out (by unfold api_Range_89.f; rw [if_pos (by have := HL.out; omega)])
  have HCL := Lib.hid hcl
  have HKB := Lib.hid hkb
  have HBB := Lib.hid hbB
  have HMB := Lib.hid hmb
  have HYB := Lib.hid hyb
  have HSB := Lib.hid hsb
  have HSZ := Lib.hid hszb
  have HWB := Lib.hid hWb
  have LY := Lib.hid ly
  clear hWb hszb hbB hmb hyb hsb hkb hcl cm fm lm cy ly hne hwr
  refine ⟨trivial, ?_⟩
  refine (callsIn_wide.2 HCL.out).mono ?_
  rintro e w2 ⟨v, rfl, hR, hB⟩
  obtain ⟨A, c, rfl⟩ := Kd.R_slice hR
  have hlt := R_lt hR
  obtain ⟨w3, hw3⟩ : ∃ w3, w3 = w2.setCell ⟨w.heap.size, 4, none⟩ (.slice A r.length c) := ⟨_, rfl⟩
  have hs2 := hB.size
  have hR3 : Kd.R k64 39 w3 B1 (fun _ => True) (.slice A r.length c) r := by
   rw [hw3]
   exact Kd.R_lower (R_same hR (fun x hx => Below.heap_setCell _ _ _ _ (by have := (hlt x hx).1; have := HSZ.out; simp only; omega))) (by have := HSZ.out; have := LY.out; omega)
  have hb3 : Below B1 w w3 := by rw [hw3]; exact (HBB.out.trans (hB.mono (by have := HSZ.out; have := LY.out; omega))).setCell (p := ⟨w.heap.size, 4, none⟩) (by have := LY.out; simp only; omega) _
  have hJ3 := HJ.out pre w w3 HJJ.out hb3
  have hm3 : Boxed w3 (B1 + 1) 3 (.int .i64 ((pre.length : Int) + 1)) := by rw [hw3]; exact (Below.heap_setCell _ _ _ _ (by have := HM.out.lt; simp only; omega)).trans (boxed_keep HMB.out hB)
  have hy3 : Boxed w3 B1 163 (.func (.yield l) #[] #[]) := by rw [hw3]; exact (Below.heap_setCell _ _ _ _ (by have := LY.out; simp only; omega)).trans (boxed_keep HYB.out hB)
  have hsc := (hB.block _ (by have := HSZ.out; omega)).trans HSB.out
  have hk3 : KeptBut lo (B1 + 2) w w3 := by
   have h2 := HKB.out.trans (KeptBut.of_below (lo := lo) (hi := B1 + 2) hB)
   rw [hw3]
   exact ⟨h2.os, h2.tape, h2.output, by have := h2.size; simpa [World.setCell] using this, fun x hx hb => (Below.heap_setCell w2 _ _ x (by simp only; omega)).trans (h2.block x hx hb)⟩
  have c0 := cell_heap (i := 0) hsc rfl
  have c1 := cell_heap (i := 1) hsc rfl
  have c2 := cell_heap (i := 2) hsc rfl
  have c3 := cell_heap (i := 3) hsc rfl
  have c4 := cell_heap (i := 4) hsc rfl
  have c5 := cell_heap (i := 5) hsc rfl
  have c6 := cell_heap (i := 6) hsc rfl
  have f4 : w2.frozen? ⟨w.heap.size, 4, none⟩ = false := by simp [World.frozen?, hsc]
  have cy2 := (boxed_keep HYB.out hB).cell
  have hB1w : B1 ≠ w.heap.size := by have := LY.out; omega
  obtain ⟨fn, tmps, assign, body, hyy, hRd⟩ := HYY.out 8 pre _ _ w3 (HP.out H.out) hJ3 ⟨A, c, rfl, hR3⟩
  simp only [NT.k, NT.m, NT.lo, NT.hi, NT.r] at hyy
  rw [hw3] at hyy hRd
  have HW3 := Lib.hid hw3
  have HK3 := Lib.hid hk3
  have HM3 := Lib.hid hm3
  have HY3 := Lib.hid hy3
  have HRD := Lib.hid hRd
  clear hw3 hk3 hm3 hy3 hRd hsc hJ3 hb3 hR3 hs2 hlt hR hB
  gi_wp2_with fail
  refine HRD.out.mono ?_
  rintro e w4 ⟨rfl, g1, g2⟩
  rw [← HW3.out] at g1
  have G1 := Lib.hid g1
  have G2 := Lib.hid g2
  clear g1 g2
  gi_wp2
  go_ret
  refine .inr ⟨H.out, rfl, fun hg => ?_, fun hg => ⟨(G2.out hg).1, by have h1 := (G2.out hg).2; rw [← HW3.out] at h1; exact Nat.le_trans HK3.out.size h1⟩⟩
  obtain ⟨j4, k4⟩ := G1.out hg
  have e3 : w3.heap[B1 + 1]? = some (.cells #[.int .i64 ((pre.length : Int) + 1)] 3 (0, 0)) := HM3.out
  have ey : w3.heap[B1]? = some (.cells #[.func (.yield l) #[] #[]] 163 (0, 0)) := HY3.out
  exact ⟨j4, HK3.out.trans (k4.wide (Nat.le_refl _) (by omega)), (k4.block _ HM3.out.lt (.inr ⟨by omega, fun cells fr => by rw [e3]; simp⟩)).trans e3, (k4.block _ HY3.out.lt (.inr ⟨Nat.le_refl _, fun cells fr => by rw [ey]; simp⟩)).trans ey⟩
/-- the state of the walk that All goes on -/
def IA (J Jx : List Step → World → Prop) (B1 l : Nat) (st : SA) (W : World) : Prop :=
 B1 + 2 ≤ W.heap.size ∧ (st.out = false → J st.pre W ∧ Boxed W (B1 + 1) 3 (.int .i64 st.pre.length) ∧ Boxed W B1 163 (.func (.yield l) #[] #[])) ∧ (st.out = true → Jx st.pre W)
theorem all_visits (lo B1 l : Nat) (J Jx : List Step → World → Prop) (W1 : World) (hB1 : B1 = W1.heap.size) (hlo : lo ≤ B1) (go : List Step → Step → Bool) (xs : List Step)
  (hJ : ∀ s A B, J s A → Below B1 A B → J s B) (hJx : ∀ s A B, Jx s A → Below B1 A B → Jx s B)
  (hY : ∀ (m : Nat) (pre : List Step) (x : Step) (vs : Array Value) (A : World), pre ++ [x] <+: xs → J pre A → EA B1 x A vs → YieldAt Fence.wide m Tryz.prog l vs A fun e B =>
   e = .returned (.bool (go pre x)) ∧ (go pre x = true → J (pre ++ [x]) B ∧ KeptBut lo B1 A B) ∧ (go pre x = false → Jx (pre ++ [x]) B ∧ A.heap.size ≤ B.heap.size)) :
  Visit (visA go) lvN (fun st s => st.out = false ∧ st.pre.length ≤ 2000 ∧ (st.pre.length ≠ 2000 → st.pre ++ [s] <+: xs)) (fun _ _ => True) (IA J Jx B1 l) (· < lo) (KeptBut lo (B1 + 2)) (B1 + 2) 113 110
   #[.pointer (some ⟨B1 + 1, 0, none⟩), .pointer (some ⟨B1, 0, none⟩)] #[] where
 trans := KeptBut.trans
 below := fun h _ => KeptBut.of_below h
 size := fun h => h.size
 tree := fun h hn b hb => h.block b (by omega) (.inl hb)
 box := fun h hn hc ht => h.block _ (Array.getElem?_eq_some_iff.1 hc).1 (.inr ⟨hn, fun cells fr => by
  rw [hc]
  intro e
  cases e
  rcases ht with h | h <;> exact absurd h (by decide)⟩)
 inv := fun h hb => ⟨Nat.le_trans h.1 hb.size, fun ho => ⟨hJ _ _ _ (h.2.1 ho).1 (hb.mono (by have := h.1; omega)), boxed_keep (h.2.1 ho).2.1 hb, boxed_keep (h.2.1 ho).2.2 hb⟩, fun ho => hJx _ _ _ (h.2.2 ho) (hb.mono (by have := h.1; omega))⟩
 low := fun b hb => by omega
 ev := fun args w => enters_ Tryz.func113 (by kernel_rfl) rfl args w
 el := fun args w => enters_ Tryz.func110 (by kernel_rfl) rfl args w
 hv := fun st s cs w hw hT hI hok => by
  obtain ⟨n, d, a, f, la, b⟩ := s
  obtain ⟨pre, out⟩ := st
  obtain ⟨ho, hlen, hpre⟩ := hok
  simp only at ho hlen hpre
  subst ho
  obtain ⟨hs, h1, _⟩ := hI
  obtain ⟨hj, hm, hy⟩ := h1 rfl
  cases hT with
  | mk k m lo_ hi r kids ar ak cr ck csk hr hrb hcr hrl hin hck hkl hk ha =>
   rw [show #[stepV [.int .i64 k, .int .i64 m, .int .i64 lo_, .int .i64 hi, .slice ar r.length cr, .slice ak kids.length ck] ⟨.mk k m lo_ hi r kids, d, a, f, la, b⟩] ++ #[Value.pointer (some ⟨B1 + 1, 0, none⟩), .pointer (some ⟨B1, 0, none⟩)] = #[.agg #[.int .i64 k, .int .i64 m, .int .i64 lo_, .int .i64 hi, .slice ar r.length cr, .slice ak kids.length ck, .int .i64 d, .int .i64 a, .bool f, .bool la, .bool b], .pointer (some ⟨B1 + 1, 0, none⟩), .pointer (some ⟨B1, 0, none⟩)] from rfl]
   refine (all_visit lo B1 l J Jx W1 hB1 hlo go xs hJ hY k m lo_ hi d a r kids ar ak cr ck f la b pre w hr hrb hcr hrl hpre hlen hj hm hy).mono fun e w' h => ?_
   rcases h with ⟨h2, rfl, hb⟩ | ⟨h2, rfl, g1, g2⟩
   ·have e : visA go ⟨pre, false⟩ ⟨.mk k m lo_ hi r kids, d, a, f, la, b⟩ = (false, ⟨pre, false⟩) := by unfold visA; rw [if_pos h2]
    rw [e]
    exact ⟨rfl, ⟨Nat.le_trans hs hb.size, fun _ => ⟨hJ _ _ _ hj (hb.mono (by omega)), boxed_keep hm hb, boxed_keep hy hb⟩, fun h => by cases h⟩, fun h => by cases h⟩
   ·have e : visA go ⟨pre, false⟩ ⟨.mk k m lo_ hi r kids, d, a, f, la, b⟩ = (go pre ⟨.mk k m lo_ hi r kids, d, a, f, la, b⟩, ⟨pre ++ [⟨.mk k m lo_ hi r kids, d, a, f, la, b⟩], !go pre ⟨.mk k m lo_ hi r kids, d, a, f, la, b⟩⟩) := by unfold visA; rw [if_neg h2]
    rw [e]
    cases hg : go pre ⟨.mk k m lo_ hi r kids, d, a, f, la, b⟩
    ·obtain ⟨q1, q2⟩ := g2 hg
     exact ⟨rfl, ⟨Nat.le_trans hs q2, (fun h => by cases h), fun _ => q1⟩, fun h => by cases h⟩
    ·obtain ⟨q1, q2, q3, q4⟩ := g1 hg
     exact ⟨rfl, ⟨Nat.le_trans hs q2.size, fun _ => ⟨q1, by simpa using q3, q4⟩, fun h => by cases h⟩, fun _ => q2⟩
 hl := fun st s cs w hw hT hI _ => by
  obtain ⟨n, d, a, f, la, b⟩ := s
  cases hT with
  | mk k m lo_ hi r kids ar ak cr ck csk hr hrb hcr hrl hin hck hkl hk ha =>
   rw [show #[stepV [.int .i64 k, .int .i64 m, .int .i64 lo_, .int .i64 hi, .slice ar r.length cr, .slice ak kids.length ck] ⟨.mk k m lo_ hi r kids, d, a, f, la, b⟩] ++ (#[] : Array Value) = #[.agg #[.int .i64 k, .int .i64 m, .int .i64 lo_, .int .i64 hi, .slice ar r.length cr, .slice ak kids.length ck, .int .i64 d, .int .i64 a, .bool f, .bool la, .bool b]] from rfl]
   refine (nothing_calls k m lo_ hi d a ar ak r.length cr kids.length ck f la b w).mono fun e w' h => ⟨h.1, ?_, KeptBut.of_below h.2⟩
   exact ⟨Nat.le_trans hI.1 h.2.size, fun ho => ⟨hJ _ _ _ (hI.2.1 ho).1 (h.2.mono (by omega)), boxed_keep (hI.2.1 ho).2.1 h.2, boxed_keep (hI.2.1 ho).2.2 h.2⟩, fun ho => hJx _ _ _ (hI.2.2 ho) (h.2.mono (by omega))⟩
set_option maxHeartbeats 4000000 in
set_option maxRecDepth 100000 in
/-- **what All hands back: an iterator over the first 2000 nodes** -/
theorem all_seq (t : NT) (cs : List Value) (lo Bn : Nat) (W1 : World) (go : List Step → Step → Bool) (hlo : lo ≤ W1.heap.size) (hT : NIn W1 (· < lo) t cs) (hn : W1.heap[Bn]? = some (.cells cs.toArray 43 (0, 0))) (hnn : t.nodes < 4611686018427387903) :
  SeqIn Tryz.prog 112 #[.pointer (some ⟨Bn, 0, none⟩)] go ((enters (Step.top t).evs).take 2000) (EA W1.heap.size) lo W1 := by
 intro l J Jx hJ hJx hY hJ0
 obtain ⟨B1, hB1⟩ : ∃ B1, B1 = W1.heap.size := ⟨_, rfl⟩
 rw [← hB1] at hJ hJx hY hlo
 have hok := all_ok go ((enters (Step.top t).evs).take 2000) (Step.top t).evs [] (by simp) (by simp)
 have V := all_visits lo B1 l J Jx W1 hB1 hlo go _ hJ hJx (fun m pre x vs A h1 h2 h3 => hY m pre x vs A h1 h2 h3)
 have hT0 := hT
 obtain ⟨T, hTe⟩ : ∃ T, T = t := ⟨_, rfl⟩
 cases hT with
 | mk k m lo_ hi r kids ar ak cr ck csk _ _ _ _ _ _ _ _ _ =>
  rename_i q1 q2 q3 q4 q5 q6 q7 q8 q9
  clear q1 q2 q3 q4 q5 q6 q7 q8 q9
  obtain ⟨W3, hW3⟩ : ∃ W3, W3 = (W1.alloc (.cells #[.func (.yield l) #[] #[]] 163)).alloc (.cells #[.int .i64 0] 3) := ⟨_, rfl⟩
  have hsz : W3.heap.size = B1 + 2 := by rw [hW3, hB1]; simp
  have hb3 : Below B1 W1 W3 := by rw [hW3, hB1]; exact ((Below.refl _ W1).alloc (Nat.le_refl _) _).alloc (by simp) _
  have hy3 : W3.heap[B1]? = some (.cells #[.func (.yield l) #[] #[]] 163 (0, 0)) := by rw [hW3, hB1]; exact (Below.heap_alloc _ _ _ (by simp)).trans (World.alloc_heap_new _ _)
  have hm3 : W3.heap[B1 + 1]? = some (.cells #[.int .i64 0] 3 (0, 0)) := by
   have := World.alloc_heap_new (W1.alloc (.cells #[.func (.yield l) #[] #[]] 163)) (.cells #[.int .i64 0] 3)
   rw [World.size_alloc] at this
   rw [hW3, hB1]; exact this
  have hw2 : ∀ w2 : World, Below W3.heap.size W3 w2 →
    Calls Tryz.prog 66 #[.agg #[.int .i64 k, .int .i64 m, .int .i64 lo_, .int .i64 hi, .slice ar r.length cr, .slice ak kids.length ck, .int .i64 1, .int .i64 0, .bool true, .bool true, .bool true],
     .func (.func 113) #[] #[.pointer (some ⟨B1 + 1, 0, none⟩), .pointer (some ⟨B1, 0, none⟩)], .func (.func 110) #[] #[]] w2
     fun e w' => (∃ b, e = .returned (.bool b)) ∧ (J ((enters (Step.top T).evs).take 2000) w' ∨ ∃ pre, pre <+: (enters (Step.top T).evs).take 2000 ∧ Jx pre w') := by
   intro w2 hb
   have hb2 : Below B1 W1 w2 := hb3.trans (hb.mono (by omega))
   have hc := walk_calls V (NT.mk k m lo_ hi r kids).nodes (Step.top (.mk k m lo_ hi r kids)) _ w2 ⟨[], false⟩ (Nat.le_refl _) (by have := hb.size; omega) (hT0.move (fun b h => hb2.block b (by omega)))
    ⟨by have := hb.size; omega, fun _ => ⟨hJ _ _ _ hJ0 hb2, (hb.block _ (by omega)).trans hm3, (hb.block _ (by omega)).trans hy3⟩, fun h => by cases h⟩ hok.1 (show (0 : Int) ≤ 1 by omega) (show (1 : Int) + _ < _ by simp only [Step.top]; omega)
   rw [show stepV [.int .i64 k, .int .i64 m, .int .i64 lo_, .int .i64 hi, .slice ar r.length cr, .slice ak kids.length ck] (Step.top (.mk k m lo_ hi r kids)) = .agg #[.int .i64 k, .int .i64 m, .int .i64 lo_, .int .i64 hi, .slice ar r.length cr, .slice ak kids.length ck, .int .i64 1, .int .i64 0, .bool true, .bool true, .bool true] from rfl] at hc
   refine hc.mono fun e w' h => ⟨⟨_, h.1⟩, ?_⟩
   rw [hTe]
   rcases hok.2 with ⟨h1, h2⟩ | ⟨h1, h2⟩
   ·exact .inl (by have := (h.2.1.2.1 h1).1; rwa [h2] at this)
   ·exact .inr ⟨_, h2, h.2.1.2.2 h1⟩
  have HW := Lib.hid hw2
  have hbc := fun w => from_calls k m lo_ hi ar ak r.length cr kids.length ck w
  have HF := Lib.hid hbc
  have HN := Lib.hid hn
  have HB := Lib.hid hB1
  have hlt := (Array.getElem?_eq_some_iff.1 hn).1
  have d0 := cell_heap (i := 0) hn rfl
  have d1 := cell_heap (i := 1) hn rfl
  have d2 := cell_heap (i := 2) hn rfl
  have d3 := cell_heap (i := 3) hn rfl
  have d4 := cell_heap (i := 4) hn rfl
  have d5 := cell_heap (i := 5) hn rfl
  rw [← hTe]
  clear hw2 hbc hT0 hsz hb3 hy3 hm3 hn hJ hJx hY hJ0 hok V hnn hlo hTe
  rw [hW3] at HW
  clear hW3
  subst hB1
  show Calls Tryz.prog 112 #[.func (.yield l) #[] #[], .pointer (some ⟨Bn, 0, none⟩)] W1 _
  go_enter Tryz.func112, Tryz.ntmps112
  go_wp2_with fail
  refine (HF.out _).mono ?_
  rintro e w2 ⟨rfl, hb2⟩
  have HB2 := Lib.hid hb2
  clear hb2
  go_wp2_with fail
  refine (HW.out _ HB2.out).mono ?_
  rintro e w3 ⟨⟨b, rfl⟩, hres⟩
  go_wp2
  go_end0
  exact ⟨⟨_, rfl⟩, hres⟩
end Go.Proofs.YtamhkdlcoghdbaaGreatDoor.PCls
