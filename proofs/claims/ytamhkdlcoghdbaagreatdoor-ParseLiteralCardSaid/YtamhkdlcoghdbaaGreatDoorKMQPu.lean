/- Put together (wip/tools/pack.py): QPu, QPv, QTRight1, QTRight2, QTRight, QPx, QPw. -/
import Derived.Test.YtamhkdlcoghdbaaGreatDoorKQPs
/- Out of Pu (wip/tools/prune2.py): the declarations alone that the texts of the trees name. -/
namespace Go.Proofs.YtamhkdlcoghdbaaGreatDoor.PCls
open Go.RowKit Go.Shelf Go.Proofs.YtamhkdlcoghdbaaGreatDoorW.PrintWords Go.Proofs.YtamhkdlcoghdbaaGreatDoorW.PrintLast Go.Proofs.YtamhkdlcoghdbaaGreatDoorW.PrintMore
set_option linter.unusedVariables false
set_option linter.unusedSimpArgs false
set_option maxHeartbeats 4000000 in
set_option maxRecDepth 100000 in
theorem ptold_some (w : World) (g : Nat) (c p : Int) (hg : w.heap[g]? = some (.cells #[.int .i64 c, .int .i64 p] 78 (0, 0))) :
    Calls Tryz.prog 20 #[.iface 71 (.pointer (some ⟨g, 0, none⟩))] w fun e w' => e = .returned (.tuple #[.int .i64 c, .int .i64 p, .bool true]) ∧ Below w.heap.size w w' := by
  have hta : ∀ w', (Instr.typeAssert (.iface 71 (.pointer (some ⟨g, 0, none⟩))) 29 71 true).run Tryz.prog w' = .ok (.tuple #[.pointer (some ⟨g, 0, none⟩), .bool true]) w' := fun w' => run_asserted2 71 29 _ _ w' Tryz.underlying71
  have k0 := lk_cell (i := 0) hg rfl
  have k1 := lk_cell (i := 1) hg rfl
  have hgl : g < w.heap.size := (Array.getElem?_eq_some_iff.1 hg).1
  go_enter Tryz.func20, Tryz.ntmps20
  go_wp2_with fail
  refine go_start (fun w' => Below w.heap.size w w') [] [.p 0, .p 1, .p 2, .t 3, .p 4, .p 5, .p 6, .t 7, .p 8, .p 9, .p 10] (by kernel_rfl) (by kernel_rfl) (fun c d v a w h => by cases d <;> exact h) ((Below.refl _ w).drew) (fun w2 hS2 => ?_)
  repeat first
  | refine go_p (v := ?_) (b := ?_) rfl (.inl ⟨by rfl, ?_⟩) ?_ ?_
    rotate_left 2
    · intro w'; go_simp; with_reducible rfl
    · simp only [Act.put, pu_, pz_, ps_, i64_w, i32_w]; rfl
  | refine go_t (v := ?_) (b := ?_) rfl (.inl ⟨by rfl, ?_⟩) ?_ ?_
    rotate_left 2
    · intro w' hS; have hc := Below.cells hS; go_simp; with_reducible rfl
    · simp only [Act.put, pu_, pz_, ps_, i64_w, i32_w]; rfl
  refine go_done ?_
  go_wp2_with fail
  go_ret3
  exact ⟨rfl, hS2⟩
theorem pex_ok : parseS ⟨#[92, 40, 97, 92, 40, 98, 92, 41, 92, 41, 92, 50]⟩ false false = .ok (.mk 5 0 0 0 [] [.mk 7 1 0 0 [] [.mk 5 0 0 0 [] [.mk 2 0 0 0 [⟨97, 97⟩] [], .mk 7 2 0 0 [] [.mk 2 0 0 0 [⟨98, 98⟩] []]]], .mk 8 2 0 0 [] []]) := by kernel_rfl
theorem pex_a : parseS ⟨#[97, 92, 41]⟩ false false = .error (40, 1) := by kernel_rfl
theorem pex_b : parseS ⟨#[92, 40, 92, 40, 97, 92, 41]⟩ false false = .error (39, 0) := by kernel_rfl
theorem pex_c : parseS ⟨#[92, 50, 92, 40, 97, 92, 41]⟩ false false = .error (41, 0) := by kernel_rfl
set_option maxHeartbeats 4000000 in
set_option maxRecDepth 100000 in
theorem pwrong_calls (w : World) (s : ByteArray) (c p m : Int) (hs : s.size ≤ 140737488351232) (hm : w.cell? ⟨2, 0, none⟩ = some (.int .i64 m)) (h2 : 2 < w.heap.size) (hT : Lib.Utf8Tabs 0 1 w) (h : parseS s false false = .error (c, p)) :
    Calls Tryz.prog 44 #[.string s, .int .i64 c, .int .i64 p] w fun e w' => e = .returned (.bool true) ∧ Below w.heap.size w w' := by
  have HL := Lib.hid (parse_calls w s false false m hs hm h2 hT)
  rw [h] at HL
  clear hm h2 hT h
  go_enter Tryz.func44, Tryz.ntmps44
  go_wp2_with fail
  refine HL.out.mono ?_
  rintro e w1 ⟨hb, g, rfl, hg, hgc⟩
  have hb0 := (Below.refl w1.heap.size w1).alloc (Nat.le_refl _) (.cells #[.int .i64 0, .int .i64 0, .int .i64 0, .int .i64 0, .slice none 0 0, .slice none 0 0] 43)
  have HB := Lib.hid (And.intro hb hb0)
  have HT := Lib.hid (ptold_some (w1.alloc (.cells #[.int .i64 0, .int .i64 0, .int .i64 0, .int .i64 0, .slice none 0 0, .slice none 0 0] 43)) g c p ((hb0.block g (blk_lt hgc)).trans hgc))
  clear hb hb0 hg hgc HL
  go_wp2_with fail
  refine HT.out.mono ?_
  rintro e w2 ⟨rfl, hb⟩
  have hk := (hb.block w1.heap.size (by simp)).trans (heap_alloc_new w1 _)
  have c0 := lk_cell (i := 0) hk rfl
  have hl := blk_lt hk
  have HB2 := Lib.hid (HB.out.1.trans ((Below.up HB.out.2 hb).mono HB.out.1.size))
  clear hb HT hk
  go_wp2_with fail
  go_ret
  exact ⟨rfl, HB2.out⟩
end Go.Proofs.YtamhkdlcoghdbaaGreatDoor.PCls
/- Out of Pv (wip/tools/prune2.py): the declarations alone that the texts of the trees name. -/
namespace Go.Proofs.YtamhkdlcoghdbaaGreatDoor.PCls
open Go.RowKit Go.Shelf Go.Proofs.YtamhkdlcoghdbaaGreatDoorW.PrintWords Go.Proofs.YtamhkdlcoghdbaaGreatDoorW.PrintLast Go.Proofs.YtamhkdlcoghdbaaGreatDoorW.PrintMore
set_option linter.unusedVariables false
set_option linter.unusedSimpArgs false
theorem nin_km {W : World} {P : Nat → Prop} {t : NT} {cs : List Value} (h : NIn W P t cs) : ∃ (lo hi : Int) (ar ak : Option Addr) (lr cr ck : Nat), cs = [.int .i64 t.k, .int .i64 t.m, .int .i64 lo, .int .i64 hi, .slice ar lr cr, .slice ak t.kids.length ck] ∧ t.kids.length ≤ ck ∧ ∀ j k, t.kids[j]? = some k → ∃ (ad : Addr) (ds : List Value), ak = some ad ∧ P ad.block ∧ NIn W P k ds ∧ ∀ i u, ds[i]? = some u → W.cell? (ad.add (j * 6 + i)) = some u := by
 cases h with
 | mk k m lo hi r kids ar ak cr ck cs hr hrb hcr hrl hin hck hkl hk ha =>
  refine ⟨_, _, _, _, _, _, _, rfl, hck, fun j k hj => ?_⟩
  obtain ⟨ad, e, hP, hc⟩ := ha j (List.getElem?_eq_some_iff.1 hj).1
  exact ⟨ad, cs j, e, hP, hk j k hj, hc⟩
set_option maxHeartbeats 4000000 in
set_option maxRecDepth 100000 in
theorem pex_calls (w : World) (m : Int) (hm : w.cell? ⟨2, 0, none⟩ = some (.int .i64 m)) (h2 : 2 < w.heap.size) (hT : Lib.Utf8Tabs 0 1 w) :
  Calls Tryz.prog 17 #[] w fun e w' => e = .returned (.bool true) ∧ Below w.heap.size w w' := by
 have HL := Lib.hid (parse_calls w ⟨#[92, 40, 97, 92, 40, 98, 92, 41, 92, 41, 92, 50]⟩ false false m (by decide) hm h2 hT)
 rw [pex_ok] at HL
 have HW := Lib.hid (fun (w1 : World) (hb : Below w.heap.size w w1) (s : ByteArray) (c p : Int) hs h => pwrong_calls w1 s c p m hs ((hb.cell (p := ⟨2, 0, none⟩) h2).trans hm) (Nat.lt_of_lt_of_le h2 hb.size) (tabs_below hT hb) h)
 clear hm h2 hT
 go_enter Tryz.func17, Tryz.ntmps17
 go_wp2_with fail
 refine HL.out.mono ?_
 rintro e w1 ⟨hb, cs, rfl, hN⟩
 obtain ⟨lo, hi, ar, ak, lr, cr, ck, rfl, hck, hkid⟩ := nin_km hN
 obtain ⟨ad, ds0, rfl, hP0, hN0, hc0⟩ := hkid 0 _ rfl
 obtain ⟨ad', ds1, e1, _, hN1, hc1⟩ := hkid 1 _ rfl
 cases e1
 obtain ⟨_, _, _, _, _, _, _, rfl, _, _⟩ := nin_km hN0
 obtain ⟨_, _, _, _, _, _, _, rfl, _, _⟩ := nin_km hN1
 have k0 := hc0 0 _ rfl
 have k1 := hc1 1 _ rfl
 have HB := Lib.hid hb
 have hadl := hP0.2
 simp only [NT.k, NT.m, NT.kids, List.length_cons, List.length_nil, Nat.zero_add] at k0 k1 hck ⊢
 have hb0 := (Below.refl w1.heap.size w1).alloc (Nat.le_refl _) (.cells #[.int .i64 5, .int .i64 0, .int .i64 lo, .int .i64 hi, .slice ar lr cr, .slice (some ad) 2 ck] 43)
 have kA0 := (hb0.cell (p := ad) hadl).trans (show w1.cell? ad = some (.int .i64 7) by have h := k0; rw [Nat.zero_mul, Addr.add_zero'] at h; exact h)
 have kA1 := (hb0.cell (p := ad.add (1 * 6 + 1)) (by rw [add_block]; exact hadl)).trans k1
 rw [show 1 * 6 + 1 = 0 + 7 from rfl, add_at ad 0 7 (by decide), Addr.add_zero'] at kA1
 replace kA1 : (w1.alloc (.cells #[.int .i64 5, .int .i64 0, .int .i64 lo, .int .i64 hi, .slice ar lr cr, .slice (some ad) 2 ck] 43)).cell? ⟨ad.block, ad.off + 6 + 1, none⟩ = some (.int .i64 2) := kA1
 have HB0 := Lib.hid hb0
 have hb6 : (ad.add (1 * 6)).block < w1.heap.size := by rw [add_block]; exact hadl
 clear hc0 hc1 hN hN0 hN1 hkid hb HL k0 k1 hb0
 go_wp2_with fail
 have HBA := Lib.hid (Below.up HB.out HB0.out)
 refine (HW.out _ HBA.out _ _ _ (by decide) pex_a).mono ?_
 rintro e w2 ⟨rfl, hb⟩
 have HB2 := Lib.hid (Below.up HBA.out hb)
 clear hb kA0 kA1
 go_wp2_with fail
 refine (HW.out w2 HB2.out _ _ _ (by decide) pex_b).mono ?_
 rintro e w3 ⟨rfl, hb⟩
 have HB3 := Lib.hid (Below.up HB2.out hb)
 clear hb
 go_wp2_with fail
 refine (HW.out w3 HB3.out _ _ _ (by decide) pex_c).mono ?_
 rintro e w4 ⟨rfl, hb⟩
 have HB4 := Lib.hid (Below.up HB3.out hb)
 clear hb
 go_wp2_with fail
 go_ret
 exact ⟨rfl, HB4.out⟩
end Go.Proofs.YtamhkdlcoghdbaaGreatDoor.PCls
/- Out of TRight1 (wip/tools/prune2.py): the declarations alone that the texts of the trees name. -/
namespace Go.Proofs.YtamhkdlcoghdbaaGreatDoor.PCls
open Go.RowKit Go.Proofs.YtamhkdlcoghdbaaGreatDoorW.PrintWords Go.Proofs.YtamhkdlcoghdbaaGreatDoorW.PrintLast Go.Proofs.YtamhkdlcoghdbaaGreatDoorW.PrintMore
set_option linter.unusedVariables false
set_option linter.unusedSimpArgs false
/-- what lies in Right's boxes -/
structure RK (N0 : Nat) (chars fold : Bool) (wrong many groups : Int) (ended : List Int) (w W : World) : Prop where
 bw : Boxed W (N0 + 2) 54 (.int .i64 wrong)
 bm : Boxed W (N0 + 3) 3 (.int .i64 many)
 bg : Boxed W (N0 + 4) 3 (.int .i64 groups)
 be : ∃ v, Boxed W (N0 + 5) 116 v ∧ W.ownsRow (N0 + 6) 3 1 v ended.length (ended.map (Value.int .i64))
 bo : W.heap[N0 + 1]? = some (.cells #[.bool chars, .bool fold] 23 (0, 0))
 kp : KeepsT N0 w W
 sz : N0 + 6 ≤ W.heap.size
theorem RK.below {N0 : Nat} {chars fold : Bool} {wrong many groups : Int} {ended : List Int} {w A B : World} (h : RK N0 chars fold wrong many groups ended w A) (hb : Below A.heap.size A B) : RK N0 chars fold wrong many groups ended w B := by
 obtain ⟨v, hv, ho⟩ := h.be
 have hs := h.sz
 exact ⟨boxed_keep h.bw hb, boxed_keep h.bm hb, boxed_keep h.bg hb, ⟨v, boxed_keep hv hb, own_move ho (fun k hk => hb.block k (ho.lt k hk).2)⟩, (hb.block _ (by omega)).trans h.bo, h.kp.trans (KeepsT.of_below hb (by omega)), Nat.le_trans h.sz hb.size⟩
theorem RK.alloc {N0 : Nat} {chars fold : Bool} {wrong many groups : Int} {ended : List Int} {w A : World} (h : RK N0 chars fold wrong many groups ended w A) (o : Obj) : RK N0 chars fold wrong many groups ended w (A.alloc o) := h.below ((Below.refl _ A).alloc (Nat.le_refl _) o)
theorem RK.drewN {N0 : Nat} {chars fold : Bool} {wrong many groups : Int} {ended : List Int} {w A : World} (h : RK N0 chars fold wrong many groups ended w A) (n : Nat) : RK N0 chars fold wrong many groups ended w (A.drewN n) := h.below (wN (Below.refl _ A) n)
theorem boxed_other {A : World} {b c : Nat} {t : TypeId} {v u : Value} (h : Boxed A b t v) (hne : b ≠ c) : Boxed (A.setCell ⟨c, 0, none⟩ u) b t v := (Below.heap_setCell A ⟨c, 0, none⟩ u b hne).trans h
theorem own_other {A : World} {base c : Nat} {t : TypeId} {v u : Value} {xs : List Value} {n : Nat} (h : A.ownsRow base t 1 v n xs) (hc : c < base) : (A.setCell ⟨c, 0, none⟩ u).ownsRow base t 1 v n xs :=
 own_move h (fun k hk => Below.heap_setCell A ⟨c, 0, none⟩ u k (by have := (h.lt k hk).1; simp only; omega))
end Go.Proofs.YtamhkdlcoghdbaaGreatDoor.PCls
/- Out of TRight2 (wip/tools/prune2.py): the declarations alone that the texts of the trees name. -/
namespace Go.Proofs.YtamhkdlcoghdbaaGreatDoor.PCls
open Go.RowKit Go.Proofs.YtamhkdlcoghdbaaGreatDoorW.PrintWords Go.Proofs.YtamhkdlcoghdbaaGreatDoorW.PrintLast Go.Proofs.YtamhkdlcoghdbaaGreatDoorW.PrintMore
set_option linter.unusedVariables false
set_option linter.unusedSimpArgs false
theorem RK.appended {N0 : Nat} {chars fold : Bool} {wrong many groups : Int} {ended ended' : List Int} {w A B : World} {v v' : Value} {tmp : Obj} (h : RK N0 chars fold wrong many groups ended w A)
  (hv : Boxed A (N0 + 5) 116 v) (ho : A.ownsRow (N0 + 6) 3 1 v ended.length (ended.map (Value.int .i64))) (hg : (A.alloc tmp).grownBy B v.ownBlock) (ho' : B.ownsRow (N0 + 6) 3 1 v' ended'.length (ended'.map (Value.int .i64))) :
  RK N0 chars fold wrong many groups ended' w (B.setCell ⟨N0 + 5, 0, none⟩ v') ∧ Boxed B (N0 + 5) 116 v := by
 have hs := h.sz
 have hne : ∀ b, b < N0 + 6 → some b ≠ v.ownBlock := by
  intro b hb e
  have := ho.lt b e.symm
  omega
 have hb : ∀ b, b < N0 + 6 → B.heap[b]? = A.heap[b]? := fun b hb' => (hg.block b (by simp; omega) (hne b hb')).trans (Below.heap_alloc _ _ _ (by omega))
 have hsz : A.heap.size ≤ B.heap.size := by have := hg.size; simp at this; omega
 have hk : KeepsT N0 A B := ⟨hg.os, hg.tape, hg.output, hsz, fun b hb' => hb b (by omega), fun b cells t fr hc ht => by
  have hlt := (Array.getElem?_eq_some_iff.1 hc).1
  refine (hg.block b (by simp; omega) (fun e => ?_)).trans (Below.heap_alloc _ _ _ hlt)
  obtain ⟨cs, hcs⟩ := own_typed ho b e.symm
  rw [hc] at hcs
  cases hcs
  rcases ht with h | h <;> exact absurd h (by decide)⟩
 have hbox : Boxed B (N0 + 5) 116 v := (hb _ (by omega)).trans hv
 exact ⟨⟨boxed_other ((hb _ (by omega)).trans h.bw) (by omega), boxed_other ((hb _ (by omega)).trans h.bm) (by omega), boxed_other ((hb _ (by omega)).trans h.bg) (by omega), ⟨v', hbox.set v', own_other ho' (by omega)⟩,
  (Below.heap_setCell _ _ _ _ (by simp only; omega)).trans ((hb _ (by omega)).trans h.bo), (h.kp.trans hk).setCell (p := ⟨N0 + 5, 0, none⟩) (by simp only; omega) hbox (by decide) _, by simp [World.setCell]; omega⟩, hbox⟩
end Go.Proofs.YtamhkdlcoghdbaaGreatDoor.PCls
/- Out of TRight (wip/tools/prune2.py): the declarations alone that the texts of the trees name. -/
namespace Go.Proofs.YtamhkdlcoghdbaaGreatDoor.PCls
open Go.RowKit Go.Proofs.YtamhkdlcoghdbaaGreatDoorW.PrintWords Go.Proofs.YtamhkdlcoghdbaaGreatDoorW.PrintLast Go.Proofs.YtamhkdlcoghdbaaGreatDoorW.PrintMore
set_option linter.unusedVariables false
set_option linter.unusedSimpArgs false
theorem RK.start {N0 : Nat} {chars fold : Bool} {wrong many groups : Int} {ended : List Int} {w0 w A : World} (h : RK N0 chars fold wrong many groups ended w0 A) (hn : N0 ≤ A.heap.size) : RK N0 chars fold wrong many groups ended A A :=
 ⟨h.bw, h.bm, h.bg, h.be, h.bo, KeepsT.of_below (Below.refl _ A) hn, h.sz⟩
end Go.Proofs.YtamhkdlcoghdbaaGreatDoor.PCls
/- Out of Px (wip/tools/prune2.py): the declarations alone that the texts of the trees name. -/
namespace Go.Proofs.YtamhkdlcoghdbaaGreatDoor.PCls
open Go.RowKit Go.Shelf Go.Proofs.YtamhkdlcoghdbaaGreatDoorW.PrintWords Go.Proofs.YtamhkdlcoghdbaaGreatDoorW.PrintLast Go.Proofs.YtamhkdlcoghdbaaGreatDoorW.PrintMore
set_option linter.unusedVariables false
set_option linter.unusedSimpArgs false
/-- where the open groups stand -/
def PlB (N : Int) (m : MS) : Prop := ∀ g, g ∈ m.top :: m.below → 0 ≤ g.pl ∧ g.pl ≤ N
theorem PlB.step {N : Int} {m m' : MS} {t : Tok} (h : PlB N m) (ht : 0 ≤ t.sat ∧ t.sat ≤ N) (hm : m.tok t = .ok m') : PlB N m' := by
 have htop := h m.top List.mem_cons_self
 have hput : ∀ p, PlB N (m.put p) := fun p g hg => by
  rcases List.mem_cons.1 hg with rfl | hg
  ·exact htop
  ·exact h g (List.mem_cons_of_mem _ hg)
 unfold MS.tok at hm
 split at hm
 ·split at hm
  ·cases hm
  ·cases hm
   intro g hg
   rcases List.mem_cons.1 hg with rfl | hg
   ·exact ht
   ·exact h g hg
 split at hm
 ·split at hm
  ·cases hm
  ·rename_i g b hb
   cases hm
   intro g' hg
   rcases List.mem_cons.1 hg with rfl | hg
   ·exact h g (by rw [hb]; simp)
   ·exact h g' (by rw [hb]; simp [hg])
 split at hm
 ·cases hm
  intro g hg
  rcases List.mem_cons.1 hg with rfl | hg
  ·exact htop
  ·exact h g (List.mem_cons_of_mem _ hg)
 split at hm
 ·split at hm
  ·cases hm
  ·cases hm
   intro g hg
   rcases List.mem_cons.1 hg with rfl | hg
   ·exact htop
   ·exact h g (List.mem_cons_of_mem _ hg)
 split at hm
 ·split at hm
  ·cases hm; exact hput _
  ·cases hm
 split at hm
 ·cases hm; exact hput _
 split at hm
 ·cases hm; exact hput _
 ·cases hm; exact hput _
end Go.Proofs.YtamhkdlcoghdbaaGreatDoor.PCls
/- Out of Pw (wip/tools/prune2.py): the declarations alone that the texts of the trees name. -/
namespace Go.Proofs.YtamhkdlcoghdbaaGreatDoor.PCls
open Go.RowKit Go.Shelf Go.Proofs.YtamhkdlcoghdbaaGreatDoorW.PrintWords Go.Proofs.YtamhkdlcoghdbaaGreatDoorW.PrintLast Go.Proofs.YtamhkdlcoghdbaaGreatDoorW.PrintMore
set_option linter.unusedVariables false
set_option linter.unusedSimpArgs false
/-- a byte, spelt -/
def sq1 (b : UInt8) : List UInt8 := if spec b = true then [92, b] else [b]
def spellQ (l : List UInt8) : List UInt8 := l.flatMap sq1
theorem unit_plain (s : ByteArray) (chars : Bool) (p : Nat) (h : p < s.size) (hb : chars = true → Lx.byt s p < 128) : Lx.unit s chars p = ((Lx.byt s p : Int), 1) := by
 cases chars with
 | true => exact unit_ascii s true p h (hb rfl)
 | false =>
  unfold Lx.unit
  rw [if_pos h]
  rfl
theorem next_spelt {s : ByteArray} {chars fold : Bool} {x : Lx.St} {b : UInt8} {l : List UInt8} (h : s.data.toList.drop x.sat = sq1 b ++ l) (hb : chars = true → b < 128) :
  Lx.next clC s chars fold x = .ok (Lx.char clC fold x b.toNat (x.sat + (sq1 b).length)) ∧ s.data.toList.drop (x.sat + (sq1 b).length) = l ∧ x.sat < s.size := by
 by_cases hs : spec b = true
 ·rw [show sq1 b = [92, b] by unfold sq1; rw [if_pos hs]] at h ⊢
  obtain ⟨h1, h2, h3⟩ := byt_drop h
  obtain ⟨h4, h5, h6⟩ := byt_drop h3
  refine ⟨?_, h6, h1⟩
  have hu := unit_ascii s chars x.sat h1 (by rw [h2]; decide)
  rw [h2] at hu
  rw [next_eq, hu]
  rw [if_neg (by decide), if_pos (by decide)]
  unfold Lx.escape
  rw [if_neg (by omega)]
  simp only [h5]
  have hc : b.toNat = 92 ∨ b.toNat = 91 ∨ b.toNat = 46 ∨ b.toNat = 42 ∨ b.toNat = 94 ∨ b.toNat = 36 := by
   simp only [spec, Bool.or_eq_true, beq_iff_eq] at hs
   rcases hs with ((((rfl | rfl) | rfl) | rfl) | rfl) | rfl <;> decide
  rw [if_neg (by omega), if_neg (by omega), if_neg (by omega), if_neg (by omega), if_pos (by omega)]
  rfl
 ·rw [show sq1 b = [b] by unfold sq1; rw [if_neg hs]] at h ⊢
  obtain ⟨h1, h2, h3⟩ := byt_drop h
  refine ⟨?_, h3, h1⟩
  have hu := unit_plain s chars x.sat h1 (fun hc => by rw [h2]; simpa [UInt8.lt_iff_toNat_lt] using hb hc)
  rw [h2] at hu
  rw [next_eq, hu]
  have hc : b.toNat ≠ 92 ∧ b.toNat ≠ 91 ∧ b.toNat ≠ 46 ∧ b.toNat ≠ 42 ∧ b.toNat ≠ 94 ∧ b.toNat ≠ 36 := by
   refine ⟨?_, ?_, ?_, ?_, ?_, ?_⟩ <;> intro e <;> apply hs <;> rw [show b = UInt8.ofNat b.toNat by simp, e] <;> decide
  rw [if_neg (by simp only; omega), if_neg (by simp only; omega), if_neg (by simp only; omega), if_neg (by simp only; omega), if_neg (by simp only; omega), if_neg (by simp only; omega), if_neg (by simp only; omega)]
  rfl
theorem run_spelt {s : ByteArray} {chars fold : Bool} : ∀ (l : List UInt8) (k : Nat) (x : Lx.St), (∀ b ∈ l, chars = true → b < 128) → s.data.toList.drop x.sat = spellQ l → l.length < k → x.sat ≤ s.size → ∃ ts, Lx.run clC s chars fold k x = .ok (x.out ++ ts) ∧ ToksOf fold l ts
 | [], k, x, hb, h, hk, hx => by
  have hl := congrArg List.length h
  have h0 : s.data.toList.length = s.size := by simp
  rw [List.length_drop, h0] at hl
  have hl' : s.size - x.sat = 0 := hl
  exact ⟨[], by rw [lrun_stop (by omega), List.append_nil], trivial⟩
 | b :: l, k, x, hb, h, hk, hx => by
  obtain ⟨k, rfl⟩ : ∃ j, k = j + 1 := ⟨k - 1, by omega⟩
  obtain ⟨h1, h2, h3⟩ := next_spelt (chars := chars) (fold := fold) (l := spellQ l) h (hb b (by simp))
  have hle : x.sat + (sq1 b).length ≤ s.size := by
   have hl := congrArg List.length h
   have h0 : s.data.toList.length = s.size := by simp
   rw [List.length_drop, h0] at hl
   have h9 : (spellQ (b :: l)).length = (sq1 b).length + (spellQ l).length := by simp [spellQ]
   omega
  obtain ⟨ts, h4, h5⟩ := run_spelt l k (Lx.char clC fold x b.toNat (x.sat + (sq1 b).length)) (fun c hc => hb c (by simp [hc])) h2 (by simp at hk; omega) hle
  refine ⟨(⟨1, x.sat, ((x.sat + (sq1 b).length : Nat) : Int), 0, 0, 0, Lx.oneR clC fold b.toNat⟩ : Tok) :: ts, ?_, ⟨rfl, rfl⟩, h5⟩
  rw [run_step h3, h1]
  simp only
  rw [h4]
  simp [Lx.char, Lx.put, Lx.tok]
theorem spellQ_length (l : List UInt8) : l.length ≤ (spellQ l).length ∧ (spellQ l).length ≤ 2 * l.length := by
 induction l with
 | nil => simp [spellQ]
 | cons b l ih =>
  have h : 1 ≤ (sq1 b).length ∧ (sq1 b).length ≤ 2 := by unfold sq1; split <;> simp
  simp only [spellQ, List.flatMap_cons, List.length_append, List.length_cons] at ih ⊢
  omega
theorem lex_spelt (s : ByteArray) (chars fold : Bool) (l : List UInt8) (hb : ∀ b ∈ l, chars = true → b < 128) (h : s.data.toList = spellQ l) (hl : l.length ≤ 900) : ∃ ts, Lx.lex clC s chars fold = .ok ts ∧ ToksOf fold l ts := by
 have h0 : s.data.toList.length = s.size := by simp
 have h1 := spellQ_length l
 rw [h] at h0
 unfold Lx.lex
 rw [if_neg (by omega)]
 obtain ⟨ts, h2, h3⟩ := run_spelt (s := s) (chars := chars) (fold := fold) l (s.size + 1) ⟨0, []⟩ hb (by simpa using h) (by omega) (Nat.zero_le _)
 exact ⟨ts, by simpa using h2, h3⟩
/-- the leaf of a byte -/
def lfB (fold : Bool) (b : UInt8) : NT := .mk 2 0 0 0 (Lx.oneR clC fold b.toNat) []
theorem mrun_leaves (fold : Bool) : ∀ (l : List UInt8) (ts : List Tok) (m : MS), ToksOf fold l ts → MS.run ts m = .ok { m with top := { m.top with cur := m.top.cur ++ l.map fun b => PT.leaf (lfB fold b) } }
 | [], [], m, _ => by simp [MS.run]
 | [], _ :: _, _, h => h.elim
 | _ :: _, [], _, h => h.elim
 | b :: l, t :: ts, m, h => by
  obtain ⟨⟨h1, h2⟩, h3⟩ := h
  have ht : m.tok t = .ok (m.put (leafN 2 0 t.r)) := by
   unfold MS.tok
   rw [if_neg (by omega), if_neg (by omega), if_neg (by omega), if_neg (by omega), if_neg (by omega), if_neg (by omega), if_neg (by omega)]
  unfold MS.run
  rw [ht]
  simp only
  rw [mrun_leaves fold l ts _ h3, h2]
  simp [MS.put, GS.put, leafN, lfB]
theorem cat_leaves (fold : Bool) (l : List UInt8) : catOut (l.map (lfB fold)) = l.map (lfB fold) := by
 induction l with
 | nil => rfl
 | cons b l ih =>
  rw [List.map_cons, show catOut (lfB fold b :: l.map (lfB fold)) = catOne (lfB fold b) ++ catOut (l.map (lfB fold)) from rfl, ih]
  rfl
theorem catT_k (fold : Bool) (l : List UInt8) : (catT (l.map (lfB fold))).k ≠ 6 := by
 unfold catT
 rw [cat_leaves]
 match l with
 | [] => show (1 : Int) ≠ 6; decide
 | [b] => show (2 : Int) ≠ 6; decide
 | a :: b :: l => show (5 : Int) ≠ 6; decide
theorem altT_one {t : NT} (h : t.k ≠ 6) : altT [t] = t := by
 unfold altT altOut
 simp [altOne, h, oneT]
theorem most_leaves (fold : Bool) (l : List UInt8) : PT.most (l.map fun b => PT.leaf (lfB fold b)) ≤ 1 := by
 induction l with
 | nil => simp [PT.most]
 | cons b l ih => simp only [List.map_cons, PT.most, PT.deep]; omega
theorem nodesL_leaves (fold : Bool) (l : List UInt8) : NT.nodesL (l.map (lfB fold)) = l.length := by
 induction l with
 | nil => simp [NT.nodesL]
 | cons b l ih => simp only [List.map_cons, NT.nodesL, ih, lfB, NT.nodes, List.length_cons]; omega
/-- a text spelt out is parsed to its bytes -/
theorem parse_spelt (s : ByteArray) (chars fold : Bool) (l : List UInt8) (hb : ∀ b ∈ l, chars = true → b < 128) (h : s.data.toList = spellQ l) (hl : l.length ≤ 900) : parseS s chars fold = .ok (catT (l.map (lfB fold))) := by
 obtain ⟨ts, h1, h2⟩ := lex_spelt s chars fold l hb h hl
 unfold parseS
 rw [h1]
 simp only
 unfold parseT partsT
 rw [mrun_leaves fold l ts MS.start h2]
 have hn : (PT.choice [PT.branch (l.map fun b => PT.leaf (lfB fold b))]).node = catT (l.map (lfB fold)) := by
  have e : PT.nodes (l.map fun b => PT.leaf (lfB fold b)) = l.map (lfB fold) := by
   rw [PT.nodes_map, List.map_map]; rfl
  simp only [PT.node, PT.nodes, e]
  exact altT_one (catT_k fold l)
 have hd : (PT.choice [PT.branch (l.map fun b => PT.leaf (lfB fold b))]).deep ≤ 2 := by
  have := most_leaves fold l
  simp only [PT.deep, PT.most, List.length_cons, List.length_nil]
  split <;> split <;> omega
 have hc : countT (catT (l.map (lfB fold))) ≤ 901 := by
  have h3 := catT_nodes (l.map (lfB fold))
  rw [nodesL_leaves] at h3
  unfold countT
  omega
 simp only [MS.start, List.isEmpty_nil, if_true, GS.all, List.nil_append]
 unfold wholeT
 rw [hn, if_neg (by omega), if_neg (by omega)]
end Go.Proofs.YtamhkdlcoghdbaaGreatDoor.PCls
