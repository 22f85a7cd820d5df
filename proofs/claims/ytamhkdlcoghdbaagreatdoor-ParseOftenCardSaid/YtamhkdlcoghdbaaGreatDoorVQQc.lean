/- Out of Qc (wip/tools/prune2.py): the declarations alone that the texts of the trees name. -/
import Derived.Test.YtamhkdlcoghdbaaGreatDoorVMQQa
namespace Go.Proofs.YtamhkdlcoghdbaaGreatDoor.PCls
open Go.RowKit Go.Shelf Go.Proofs.YtamhkdlcoghdbaaGreatDoorW.PrintWords Go.Proofs.YtamhkdlcoghdbaaGreatDoorW.PrintLast Go.Proofs.YtamhkdlcoghdbaaGreatDoorW.PrintMore
set_option linter.unusedVariables false
set_option linter.unusedSimpArgs false
theorem par_any {W w' : World} {e : Ending} {r : Except Er NT} (h : ParseAt W w' e r) : ∃ (k m lo hi : Int) (ar ak : Option Addr) (lr cr lk ck : Nat) (f : Value), e = .returned (.tuple #[.agg #[.int .i64 k, .int .i64 m, .int .i64 lo, .int .i64 hi, .slice ar lr cr, .slice ak lk ck], f]) ∧ Below W.heap.size W w' := by
  obtain ⟨hb, h⟩ := h
  cases r with
  | error x => obtain ⟨g, rfl, _⟩ := h; exact ⟨0, 0, 0, 0, none, none, 0, 0, 0, 0, _, rfl, hb⟩
  | ok t =>
    obtain ⟨cs, rfl, hN⟩ := h
    obtain ⟨kk, km, klo, khi, kar, kak, klr, kcr, klk, kck, rfl⟩ := nin_six hN
    exact ⟨_, _, _, _, _, _, _, _, _, _, _, rfl, hb⟩
/-- a tree in a box -/
def TrAt (w : World) (b : Nat) (t : NT) (v0 v1 v2 v3 v4 v5 : Value) : Prop := w.heap[b]? = some (.cells #[v0, v1, v2, v3, v4, v5] 43 (0, 0)) ∧ NIn w (· < w.heap.size) t [v0, v1, v2, v3, v4, v5]
theorem TrAt.below {w w' : World} {b : Nat} {t : NT} {v0 v1 v2 v3 v4 v5 : Value} (h : TrAt w b t v0 v1 v2 v3 v4 v5) (hb : Below w.heap.size w w') : TrAt w' b t v0 v1 v2 v3 v4 v5 :=
  ⟨(hb.block b (blk_lt h.1)).trans h.1, (h.2.move (fun b hb' => hb.block b hb')).mono (fun b hb' => Nat.lt_of_lt_of_le hb' hb.size)⟩
/-- the mode's box, and how far the world is -/
def MdAt (W w : World) (chars fold : Bool) : Prop := Below W.heap.size W w ∧ w.heap[W.heap.size]? = some (.cells #[.bool chars, .bool fold] 23 (0, 0))
theorem MdAt.below {W w w' : World} {chars fold : Bool} (h : MdAt W w chars fold) (hb : Below w.heap.size w w') : MdAt W w' chars fold := ⟨h.1.trans (hb.mono h.1.size), (hb.block _ (blk_lt h.2)).trans h.2⟩
theorem MdAt.alloc {W w : World} {chars fold : Bool} (h : MdAt W w chars fold) (o : Obj) : MdAt W (w.alloc o) chars fold := h.below ((Below.refl _ w).alloc (Nat.le_refl _) o)
theorem tr_new {W w : World} {t : NT} {v0 v1 v2 v3 v4 v5 : Value} (h : NIn w (fun b => W.heap.size ≤ b ∧ b < w.heap.size) t [v0, v1, v2, v3, v4, v5]) : TrAt (w.alloc (.cells #[v0, v1, v2, v3, v4, v5] 43)) w.heap.size t v0 v1 v2 v3 v4 v5 :=
  ⟨heap_alloc_new w _, (h.move (fun b hb => ((Below.refl w.heap.size w).alloc (Nat.le_refl _) _).block b hb.2)).mono (fun b hb => by simp; omega)⟩
theorem nodes_big {s : ByteArray} {chars fold : Bool} {t : NT} (h : parseS s chars fold = .ok t) : t.nodes ≤ 2000 := by
  obtain ⟨_, _, hp⟩ := parse_put h
  exact hp.nodes
/-- two trees, and the mode -/
def PgSt (W : World) (chars fold : Bool) (bx b_ : Nat) (x y : NT) (x0 x1 x2 x3 x4 x5 y0 y1 y2 y3 y4 y5 : Value) (w : World) : Prop := TrAt w bx x x0 x1 x2 x3 x4 x5 ∧ TrAt w b_ y y0 y1 y2 y3 y4 y5 ∧ MdAt W w chars fold
theorem PgSt.below {W : World} {chars fold : Bool} {bx b_ : Nat} {x y : NT} {x0 x1 x2 x3 x4 x5 y0 y1 y2 y3 y4 y5 : Value} {w w' : World} (h : PgSt W chars fold bx b_ x y x0 x1 x2 x3 x4 x5 y0 y1 y2 y3 y4 y5 w) (hb : Below w.heap.size w w') : PgSt W chars fold bx b_ x y x0 x1 x2 x3 x4 x5 y0 y1 y2 y3 y4 y5 w' := ⟨h.1.below hb, h.2.1.below hb, h.2.2.below hb⟩
theorem TrAt.cells {w : World} {b : Nat} {t : NT} {v0 v1 v2 v3 v4 v5 : Value} (h : TrAt w b t v0 v1 v2 v3 v4 v5) : w.cell? ⟨b, 0, none⟩ = some v0 ∧ w.cell? ⟨b, 1, none⟩ = some v1 ∧ w.cell? ⟨b, 2, none⟩ = some v2 ∧ w.cell? ⟨b, 3, none⟩ = some v3 ∧ w.cell? ⟨b, 4, none⟩ = some v4 ∧ w.cell? ⟨b, 5, none⟩ = some v5 :=
  ⟨lk_cell (i := 0) h.1 rfl, lk_cell (i := 1) h.1 rfl, lk_cell (i := 2) h.1 rfl, lk_cell (i := 3) h.1 rfl, lk_cell (i := 4) h.1 rfl, lk_cell (i := 5) h.1 rfl⟩
theorem grp_list (a : ByteArray) : ((⟨#[92, 40]⟩ : ByteArray) ++ a ++ ⟨#[92, 41]⟩).data.toList = 92 :: 40 :: (a.data.toList ++ [92, 41]) := by simp
theorem or_list (a b : ByteArray) : (a ++ (⟨#[92, 124]⟩ : ByteArray) ++ b).data.toList = a.data.toList ++ 92 :: 124 :: b.data.toList := by simp
/-- a group's tree: its kid's cells -/
theorem nin_group {w : World} {P : Nat → Prop} {x : NT} {cs : List Value} (h : NIn w P (.mk 7 1 0 0 [] [x]) cs) : ∃ (ar : Option Addr) (cr ck : Nat) (ad : Addr) (k m lo hi : Int) (br bk : Option Addr) (lr dr lk dk : Nat), cs = [.int .i64 7, .int .i64 1, .int .i64 0, .int .i64 0, .slice ar 0 cr, .slice (some ad) 1 ck] ∧ ad.block < w.heap.size ∧ NIn w P x [.int .i64 k, .int .i64 m, .int .i64 lo, .int .i64 hi, .slice br lr dr, .slice bk lk dk] ∧
    w.cell? ad = some (.int .i64 k) ∧ w.cell? ⟨ad.block, ad.off + 1, none⟩ = some (.int .i64 m) ∧ w.cell? ⟨ad.block, ad.off + 2, none⟩ = some (.int .i64 lo) ∧ w.cell? ⟨ad.block, ad.off + 3, none⟩ = some (.int .i64 hi) ∧ w.cell? ⟨ad.block, ad.off + 4, none⟩ = some (.slice br lr dr) ∧ w.cell? ⟨ad.block, ad.off + 5, none⟩ = some (.slice bk lk dk) := by
  cases h with
  | mk _ _ _ _ _ _ ar ak cr ck cs hr hrb hcr hrl hin hck hkl hk ha =>
    obtain ⟨ad, e, hP, hc⟩ := ha 0 (by simp)
    have hx := hk 0 x rfl
    obtain ⟨k, m, lo, hi, br, bk, lr, dr, lk, dk, e2⟩ := nin_six hx
    rw [e2] at hc hx
    subst e
    have h0 := hc 0 _ rfl
    have h1 := cell_at (n := 0) (by simpa using hc) 1 (by decide) rfl
    have h2 := cell_at (n := 0) (by simpa using hc) 2 (by decide) rfl
    have h3 := cell_at (n := 0) (by simpa using hc) 3 (by decide) rfl
    have h4 := cell_at (n := 0) (by simpa using hc) 4 (by decide) rfl
    have h5 := cell_at (n := 0) (by simpa using hc) 5 (by decide) rfl
    have e0 : ad.add 0 = ad := by unfold Addr.add; rw [if_pos rfl]
    simp only [Nat.zero_mul, Nat.zero_add, e0] at h0 h1 h2 h3 h4 h5
    exact ⟨ar, cr, ck, ad, k, m, lo, hi, br, bk, lr, dr, lk, dk, rfl, cell_block2 h0, hx, h0, h1, h2, h3, h4, h5⟩
theorem alt_of2 (W : World) (B : Nat) (t0 t1 : NT) (c0 c1 : List Value) (hB : W.heap[B]? = some (.cells (c0 ++ c1).toArray 43 (0, 0))) (h0 : NIn W (· < W.heap.size) t0 c0) (h1 : NIn W (· < W.heap.size) t1 c1) (hn : t0.nodes + t1.nodes ≤ 4000) :
    Calls Tryz.prog 26 #[.slice (some ⟨B, 0, none⟩) 2 2] W fun e w' => ∃ cs' : List Value, e = .returned (.agg cs'.toArray) ∧ NIn w' (fun b => W.heap.size ≤ b ∧ b < w'.heap.size) (altT [t0, t1]) cs' ∧ Below W.heap.size W w' := by
  have hlt := (Array.getElem?_eq_some_iff.1 hB).1
  exact alt_calls (some ⟨B, 0, none⟩) 2 2 [t0, t1] W rfl (by simp only [NT.nodesL]; omega) (fun j t ht => by
    obtain ⟨cs, hn, hc⟩ := args_at (P := (· < W.heap.size)) (l := [t0, t1]) (css := [c0, c1]) (by simpa using hB) rfl (fun j t cs g1 g2 => by
      match j with
      | 0 => simp only [List.getElem?_cons_zero, Option.some.injEq] at g1 g2; subst g1 g2; exact h0
      | 1 => simp only [List.getElem?_cons_succ, List.getElem?_cons_zero, Option.some.injEq] at g1 g2; subst g1 g2; exact h1
      | j + 2 => simp at g1) (fun c h => by simp at h; rcases h with h | h <;> (subst h; first | exact h0.len | exact h1.len)) j t ht
    exact ⟨_, cs, rfl, by simp only; omega, hn, hc⟩)
set_option maxHeartbeats 16000000 in
set_option maxRecDepth 100000 in
theorem group_calls (a b : ByteArray) (chars fold : Bool) (W : World) (m : Int) (hT : Lib.Utf8Tabs 0 1 W) (hm : W.cell? ⟨2, 0, none⟩ = some (.int .i64 m)) (h2 : 2 < W.heap.size) (hsa : a.size ≤ 140737488351232) (hsb : b.size ≤ 140737488351232) :
    Calls Tryz.prog 5 #[.string a, .string b, .agg #[.bool chars, .bool fold]] W fun e w' => e = .returned (.bool true) ∧ Below W.heap.size W w' := by
  have hb0 := (Below.refl W.heap.size W).alloc (Nat.le_refl _) (.cells #[.bool chars, .bool fold] 23)
  have hg0 := heap_alloc_new W (.cells #[.bool chars, .bool fold] 23)
  have HX := Lib.hid (pex_calls (W.alloc (.cells #[.bool chars, .bool fold] 23)) m ((hb0.cell (p := ⟨2, 0, none⟩) h2).trans hm) (Nat.lt_of_lt_of_le h2 hb0.size) (tabs_below hT hb0))
  have HL := Lib.hid (fun (w : World) (hb : MdAt W w chars fold) (s : ByteArray) (hs : s.size ≤ 140737488351232) => parse_calls w s chars fold m hs ((hb.1.cell (p := ⟨2, 0, none⟩) h2).trans hm) (Nat.lt_of_lt_of_le h2 hb.1.size) (tabs_below hT hb.1))
  have HB0 : Hid (MdAt W _ chars fold) := Lib.hid (And.intro hb0 hg0)
  clear hb0 hg0 hT hm h2
  go_enter Tryz.func5, Tryz.ntmps5
  go_wp2_with fail
  refine HX.out.mono ?_
  rintro e w1 ⟨rfl, hb⟩
  have HB := Lib.hid (HB0.out.below hb)
  clear hb HX HB0
  by_cases hbig : 900 < a.size + b.size
  · have hbi : (900 : Int) < (a.size : Int) + (b.size : Int) := by omega
    go_wp2_with fail
    go_ret
    exact ⟨rfl, HB.out.1⟩
  have hbi : ¬ (900 : Int) < (a.size : Int) + (b.size : Int) := by omega
  have k0 := lk_cell (i := 0) HB.out.2 rfl
  have k1 := lk_cell (i := 1) HB.out.2 rfl
  have HP := Lib.hid (HL.out w1 HB.out a hsa)
  rcases h1 : parseS a chars fold with x | x
  · rw [h1] at HP
    clear h1
    go_wp2_with fail
    refine HP.out.mono ?_
    rintro e w2 ⟨hb2, g, rfl, hg, hgc⟩
    have HB3 := Lib.hid ((HB.out.below hb2).alloc (.cells #[.int .i64 0, .int .i64 0, .int .i64 0, .int .i64 0, .slice none 0 0, .slice none 0 0] 43))
    have HP2 := Lib.hid (HL.out _ HB3.out b hsb)
    have q0 := lk_cell (i := 0) HB3.out.2 rfl
    have q1 := lk_cell (i := 1) HB3.out.2 rfl
    clear hb2 hg hgc HP HL HB k0 k1
    go_wp2_with fail
    refine HP2.out.mono ?_
    intro e w4 hpa
    obtain ⟨jk, jm, jlo, jhi, jar, jak, jlr, jcr, jlk, jck, f, rfl, hb4⟩ := par_any hpa
    have HB4 := Lib.hid ((HB3.out.below hb4).alloc (.cells #[.int .i64 jk, .int .i64 jm, .int .i64 jlo, .int .i64 jhi, .slice jar jlr jcr, .slice jak jlk jck] 43)).1
    clear hb4 hpa HP2 HB3 q0 q1
    go_wp2_with fail
    go_ret
    exact ⟨rfl, HB4.out⟩
  rw [h1] at HP
  go_wp2_with fail
  refine HP.out.mono ?_
  rintro e w2 ⟨hb2, cs, rfl, hN⟩
  obtain ⟨kk, km, klo, khi, kar, kak, klr, kcr, klk, kck, rfl⟩ := nin_six hN
  have HX3 := Lib.hid (tr_new hN)
  have HB3 := Lib.hid ((HB.out.below hb2).alloc (.cells #[.int .i64 kk, .int .i64 km, .int .i64 klo, .int .i64 khi, .slice kar klr kcr, .slice kak klk kck] 43))
  have HP2 := Lib.hid (HL.out _ HB3.out b hsb)
  have q0 := lk_cell (i := 0) HB3.out.2 rfl
  have q1 := lk_cell (i := 1) HB3.out.2 rfl
  clear hb2 hN HP HB k0 k1
  rcases h2 : parseS b chars fold with y | y
  · rw [h2] at HP2
    clear h1 h2
    go_wp2_with fail
    refine HP2.out.mono ?_
    rintro e w4 ⟨hb2, g, rfl, hg, hgc⟩
    have HB4 := Lib.hid ((HB3.out.below hb2).alloc (.cells #[.int .i64 0, .int .i64 0, .int .i64 0, .int .i64 0, .slice none 0 0, .slice none 0 0] 43)).1
    clear hb2 hg hgc HP2 HB3 HX3 HL q0 q1
    go_wp2_with fail
    go_ret
    exact ⟨rfl, HB4.out⟩
  rw [h2] at HP2
  go_wp2_with fail
  refine HP2.out.mono ?_
  rintro e w4 ⟨hb4, cs, rfl, hN⟩
  obtain ⟨jk, jm, jlo, jhi, jar, jak, jlr, jcr, jlk, jck, rfl⟩ := nin_six hN
  have HY5 := Lib.hid (tr_new hN)
  have HB5 := Lib.hid ((HB3.out.below hb4).alloc (.cells #[.int .i64 jk, .int .i64 jm, .int .i64 jlo, .int .i64 jhi, .slice jar jlr jcr, .slice jak jlk jck] 43))
  have HX5 := Lib.hid ((HX3.out.below hb4).below ((Below.refl _ w4).alloc (Nat.le_refl _) (.cells #[.int .i64 jk, .int .i64 jm, .int .i64 jlo, .int .i64 jhi, .slice jar jlr jcr, .slice jak jlk jck] 43)))
  have HS0 := Lib.hid (show PgSt W chars fold w2.heap.size w4.heap.size x y _ _ _ _ _ _ _ _ _ _ _ _ _ from And.intro HX5.out (And.intro HY5.out HB5.out))
  obtain ⟨w5, hw5⟩ : ∃ X, X = w4.alloc (.cells #[.int .i64 jk, .int .i64 jm, .int .i64 jlo, .int .i64 jhi, .slice jar jlr jcr, .slice jak jlk jck] 43) := ⟨_, rfl⟩
  obtain ⟨bx, hbx⟩ : ∃ X, X = w2.heap.size := ⟨_, rfl⟩
  obtain ⟨b_, hby⟩ : ∃ X, X = w4.heap.size := ⟨_, rfl⟩
  rw [← hw5, ← hbx, ← hby] at HS0
  have HE := Lib.hid (And.intro hw5 (And.intro hbx hby))
  have HNN := Lib.hid (And.intro (nodes_big h1) (nodes_big h2))
  have HPP := Lib.hid (And.intro h1 h2)
  clear hb4 hN HP2 HB3 HX3 HX5 HY5 HB5 q0 q1 hw5 hbx hby h1 h2
  go_upto_region 8 with fail
  rw [← HE.out.1, ← HE.out.2.1, ← HE.out.2.2]
  clear HE
  have HS := HS0
  clear HS0
  have HG := Lib.hid (fun (w : World) (t : NT) (b : Nat) (v0 v1 v2 v3 v4 v5 : Value) (h : TrAt w b t v0 v1 v2 v3 v4 v5) (hn : t.nodes ≤ 2000) => groups_calls t _ w h.2 (by omega))
  have HD := Lib.hid (fun (w : World) (t : NT) (b : Nat) (v0 v1 v2 v3 v4 v5 : Value) (h : TrAt w b t v0 v1 v2 v3 v4 v5) (hn : t.nodes ≤ 2000) => depth_calls t _ w h.2 (by omega))
  obtain ⟨gx, hgx⟩ : ∃ g, g = groupsT x := ⟨_, rfl⟩
  obtain ⟨gy, hgy⟩ : ∃ g, g = groupsT y := ⟨_, rfl⟩
  obtain ⟨dx, hdx⟩ : ∃ g, g = depthT x := ⟨_, rfl⟩
  obtain ⟨dy, hdy⟩ : ∃ g, g = depthT y := ⟨_, rfl⟩
  have HGX := Lib.hid (And.intro hgx (And.intro hgy (And.intro hdx hdy)))
  clear hgx hgy hdx hdy
  obtain ⟨c1, hc1⟩ : ∃ c : Bool, c = (decide (gx = 0) && decide (dx < 40)) := ⟨_, rfl⟩
  obtain ⟨c2, hc2⟩ : ∃ c : Bool, c = (decide (gx = 0) && decide (gy = 0) && decide (dx < 40) && decide (dy < 40)) := ⟨_, rfl⟩
  have HC := Lib.hid (And.intro hc1 hc2)
  clear hc1 hc2
  have hb900 : a.size + b.size ≤ 900 := by omega
  have hza : (92 :: 40 :: (a.data.toList ++ [92, 41]) : List UInt8).length ≤ 904 := by simp; omega
  clear hza
  go_cut [50] (fun s50 wc => s50 = .bool c1 ∧ Aside0 (PgSt W chars fold bx b_ x y (.int .i64 kk) (.int .i64 km) (.int .i64 klo) (.int .i64 khi) (.slice kar klr kcr) (.slice kak klk kck) (.int .i64 jk) (.int .i64 jm) (.int .i64 jlo) (.int .i64 jhi) (.slice jar jlr jcr) (.slice jak jlk jck) wc))
  case first =>
    obtain ⟨x0, x1, x2, x3, x4, x5⟩ := HS.out.1.cells
    go_wp2_with fail
    refine (HG.out _ _ _ _ _ _ _ _ _ HS.out.1 HNN.out.1).mono ?_
    rintro e w6 ⟨rfl, hb⟩
    rw [← HGX.out.1]
    have HS6 := Lib.hid (HS.out.below hb)
    clear hb x0 x1 x2 x3 x4 x5
    obtain ⟨x0, x1, x2, x3, x4, x5⟩ := HS6.out.1.cells
    by_cases g1 : gx = 0
    · have g2 : (gx == 0) = true := by rw [g1]; rfl
      go_wp2_with fail
      refine (HD.out _ _ _ _ _ _ _ _ _ HS6.out.1 HNN.out.1).mono ?_
      rintro e w7 ⟨rfl, hb⟩
      rw [← HGX.out.2.2.1]
      have HS7 := Lib.hid (HS6.out.below hb)
      clear hb x0 x1 x2 x3 x4 x5
      go_wp2_with fail
      go_meet
      exact ⟨by rw [HC.out.1]; simp [g1], ⟨HS7.out⟩⟩
    · have g2 : (gx == 0) = false := by rw [beq_eq_false_iff_ne]; exact g1
      go_wp2_with fail
      go_meet
      exact ⟨by rw [HC.out.1]; simp [g1], ⟨HS6.out⟩⟩
  case rest =>
    obtain ⟨rfl, HS8⟩ := hcut
    clear HS
    go_upto_if 50 with fail
    go_cut [6] (fun s6 wc => s6 = .bool false ∧ Aside0 (PgSt W chars fold bx b_ x y (.int .i64 kk) (.int .i64 km) (.int .i64 klo) (.int .i64 khi) (.slice kar klr kcr) (.slice kak klk kck) (.int .i64 jk) (.int .i64 jm) (.int .i64 jlo) (.int .i64 jhi) (.slice jar jlr jcr) (.slice jak jlk jck) wc))
    case first =>
      cases hc : c1 with
      | false =>
        go_wp2_with fail
        go_meet
        exact ⟨rfl, HS8⟩
      | true =>
        obtain ⟨g1, d1⟩ : gx = 0 ∧ dx < 40 := by have h := HC.out.1; rw [hc] at h; simpa using h.symm
        clear hc
        have HQ := Lib.hid (HL.out wc HS8.out.2.2 (⟨#[92, 40]⟩ ++ a ++ ⟨#[92, 41]⟩) (by simp only [ByteArray.size_append]; have e1 : (⟨#[92, 40]⟩ : ByteArray).size = 2 := rfl; have e2 : (⟨#[92, 41]⟩ : ByteArray).size = 2 := rfl; omega))
        rw [parse_group (grp_list a) HPP.out.1 (HGX.out.1.symm.trans g1) (by rw [← HGX.out.2.2.1]; exact d1) (by omega)] at HQ
        have k0 := lk_cell (i := 0) HS8.out.2.2.2 rfl
        have k1 := lk_cell (i := 1) HS8.out.2.2.2 rfl
        go_wp2_with fail
        refine HQ.out.mono ?_
        rintro e w6 ⟨hb6, cs, rfl, hN⟩
        obtain ⟨gr, gcr, gck, ad, ak, am, alo, ahi, abr, abk, alr, adr, alk, adk, rfl, hadb, hNx, a0, a1, a2, a3, a4, a5⟩ := nin_group hN
        have hb7 := (Below.refl w6.heap.size w6).alloc (Nat.le_refl _) (.cells #[.int .i64 7, .int .i64 1, .int .i64 0, .int .i64 0, .slice gr 0 gcr, .slice (some ad) 1 gck] 43)
        obtain ⟨w7, hw7⟩ : ∃ X, X = w6.alloc (.cells #[.int .i64 7, .int .i64 1, .int .i64 0, .int .i64 0, .slice gr 0 gcr, .slice (some ad) 1 gck] 43) := ⟨_, rfl⟩
        have hn7 : w7.heap[w6.heap.size]? = some (.cells #[.int .i64 7, .int .i64 1, .int .i64 0, .int .i64 0, .slice gr 0 gcr, .slice (some ad) 1 gck] 43 (0, 0)) := by rw [hw7]; exact heap_alloc_new _ _
        rw [← hw7] at hb7
        obtain ⟨bn, hbn⟩ : ∃ X, X = w6.heap.size := ⟨_, rfl⟩
        have HSx := Lib.hid ((HS8.out.below hb6).below hb7)
        have HNx : Hid (NIn w7 (· < w7.heap.size) x _) := Lib.hid ((hNx.move (w' := w7) (fun b hb => hb7.block b hb.2)).mono (fun b hb => Nat.lt_of_lt_of_le hb.2 hb7.size))
        obtain ⟨x0, x1, x2, x3, x4, x5⟩ := HSx.out.1.cells
        have hbxl := blk_lt HSx.out.1.1
        replace a0 := (hb7.cell (p := ad) hadb).trans a0
        replace a1 := (hb7.cell (p := ⟨ad.block, ad.off + 1, none⟩) hadb).trans a1
        replace a2 := (hb7.cell (p := ⟨ad.block, ad.off + 2, none⟩) hadb).trans a2
        replace a3 := (hb7.cell (p := ⟨ad.block, ad.off + 3, none⟩) hadb).trans a3
        replace a4 := (hb7.cell (p := ⟨ad.block, ad.off + 4, none⟩) hadb).trans a4
        replace a5 := (hb7.cell (p := ⟨ad.block, ad.off + 5, none⟩) hadb).trans a5
        rw [← hbn] at hn7 hb7
        have n0 := lk_cell (i := 0) hn7 rfl
        have n1 := lk_cell (i := 1) hn7 rfl
        have n5 := lk_cell (i := 5) hn7 rfl
        have hbnl := blk_lt hn7
        have hadl : ad.block < w7.heap.size := Nat.lt_of_lt_of_le (hbn ▸ hadb) hb7.size
        have HW7 := Lib.hid (And.intro hw7 hbn)
        clear hb6 hb7 hw7 hbn hn7 hN hNx hadb HQ k0 k1
        go_upto_region 10 with fail
        rw [← HW7.out.1, ← HW7.out.2]
        refine go_start (fun w' => Below w7.heap.size w7 w') [] [.p 0, .p 1, .p 2, .p 3, .t 4, .p 5, .p 6, .p 7, .p 8, .t 9, .p 10, .p 11, .p 12, .p 13, .t 14, .p 15, .p 16, .p 17, .p 18, .p 19, .t 20, .p 21, .t 22, .t 23, .o 24, .p 25, .p 26] (by kernel_rfl) (by kernel_rfl) (fun c d v a w h => by cases d <;> exact h) ((Below.refl _ w7).drew) (fun w8 hS8 => ?_)
        repeat first
        | refine go_p (v := ?_) (b := ?_) rfl (.inl ⟨by rfl, ?_⟩) ?_ ?_
          rotate_left 2
          · intro w'; go_simp; with_reducible rfl
          · simp only [Act.put, pu_, pz_, ps_, i64_w, i32_w]; rfl
        | refine go_t (v := ?_) (b := ?_) rfl (.inl ⟨by rfl, ?_⟩) ?_ ?_
          rotate_left 2
          · intro w' hS; have hc := Below.cells hS; have b0 := (hS.cell (p := ad) hadl).trans a0; go_simp; with_reducible rfl
          · simp only [Act.put, pu_, pz_, ps_, i64_w, i32_w]; rfl
        have HSM := Lib.hid (Same_calls w8.heap.size x x _ _ w8 (Nat.le_refl _) ((HNx.out.move (fun b hb => hS8.block b hb)).mono (fun b hb => Nat.lt_of_lt_of_le hb hS8.size)) (HSx.out.1.below hS8).2 (by have := HNN.out.1; omega) (by have := HNN.out.1; omega))
        rw [same_self x HNN.out.1] at HSM
        refine go_call rfl (by rfl) Tryz.func25 (by kernel_rfl) rfl (by simp only [List.map_toArray, List.map_cons, List.map_nil]; rfl) HSM.out ?_
        rintro e w9 ⟨rfl, hb9⟩
        have hS9 : Below w7.heap.size w7 w9 := hS8.trans (hb9.mono hS8.size)
        refine ⟨_, _, rfl, hS9, (by simp only [Act.put, List.setIfInBounds_toArray, List.set_cons_zero, List.set_cons_succ]; rfl), ?_⟩
        repeat first
        | refine go_p (v := ?_) (b := ?_) rfl (.inl ⟨by rfl, ?_⟩) ?_ ?_
          rotate_left 2
          · intro w'; go_simp; with_reducible rfl
          · simp only [Act.put, pu_, pz_, ps_, i64_w, i32_w]; rfl
        | refine go_t (v := ?_) (b := ?_) rfl (.inl ⟨by rfl, ?_⟩) ?_ ?_
          rotate_left 2
          · intro w' hS; have hc := Below.cells hS; go_simp; with_reducible rfl
          · simp only [Act.put, pu_, pz_, ps_, i64_w, i32_w]; rfl
        refine go_done ?_
        have HS9 := Lib.hid (HSx.out.below hS9)
        clear hS8 hb9 hS9 HSM HSx HNx HW7 n0 n1 n5 a0 a1 a2 a3 a4 a5 x0 x1 x2 x3 x4 x5
        go_wp2_with fail
        go_meet
        exact ⟨rfl, ⟨HS9.out⟩⟩
    case rest =>
      obtain ⟨rfl, HS9⟩ := hcut
      clear HS8
      go_upto_region 12 with fail
      go_cut [103] (fun s103 wc => s103 = .bool c2 ∧ Aside0 (PgSt W chars fold bx b_ x y (.int .i64 kk) (.int .i64 km) (.int .i64 klo) (.int .i64 khi) (.slice kar klr kcr) (.slice kak klk kck) (.int .i64 jk) (.int .i64 jm) (.int .i64 jlo) (.int .i64 jhi) (.slice jar jlr jcr) (.slice jak jlk jck) wc))
      case first =>
        obtain ⟨x0, x1, x2, x3, x4, x5⟩ := HS9.out.1.cells
        go_wp2_with fail
        refine (HG.out _ _ _ _ _ _ _ _ _ HS9.out.1 HNN.out.1).mono ?_
        rintro e w6 ⟨rfl, hb⟩
        rw [← HGX.out.1]
        have HS6 := Lib.hid (HS9.out.below hb)
        clear hb x0 x1 x2 x3 x4 x5
        obtain ⟨y0, y1, y2, y3, y4, y5⟩ := HS6.out.2.1.cells
        by_cases g1 : gx = 0
        rotate_left
        · have g2 : (gx == 0) = false := by rw [beq_eq_false_iff_ne]; exact g1
          go_wp2_with fail
          go_meet
          exact ⟨by rw [HC.out.2]; simp [g1], ⟨HS6.out⟩⟩
        have g2 : (gx == 0) = true := by rw [g1]; rfl
        go_wp2_with fail
        refine (HG.out _ _ _ _ _ _ _ _ _ HS6.out.2.1 HNN.out.2).mono ?_
        rintro e w7 ⟨rfl, hb⟩
        rw [← HGX.out.2.1]
        have HS7 := Lib.hid (HS6.out.below hb)
        clear hb y0 y1 y2 y3 y4 y5
        obtain ⟨x0, x1, x2, x3, x4, x5⟩ := HS7.out.1.cells
        by_cases g3 : gy = 0
        rotate_left
        · have g4 : (gy == 0) = false := by rw [beq_eq_false_iff_ne]; exact g3
          go_wp2_with fail
          go_meet
          exact ⟨by rw [HC.out.2]; simp [g1, g3], ⟨HS7.out⟩⟩
        have g4 : (gy == 0) = true := by rw [g3]; rfl
        go_wp2_with fail
        refine (HD.out _ _ _ _ _ _ _ _ _ HS7.out.1 HNN.out.1).mono ?_
        rintro e w8 ⟨rfl, hb⟩
        rw [← HGX.out.2.2.1]
        have HS8 := Lib.hid (HS7.out.below hb)
        clear hb x0 x1 x2 x3 x4 x5
        obtain ⟨y0, y1, y2, y3, y4, y5⟩ := HS8.out.2.1.cells
        by_cases d1 : dx < 40
        rotate_left
        · have hce : c2 = false := by rw [HC.out.2, decide_eq_false d1]; simp
          go_wp2_with fail
          go_meet
          exact ⟨by rw [hce], ⟨HS8.out⟩⟩
        go_wp2_with fail
        refine (HD.out _ _ _ _ _ _ _ _ _ HS8.out.2.1 HNN.out.2).mono ?_
        rintro e wX ⟨rfl, hb⟩
        rw [← HGX.out.2.2.2]
        have HSX := Lib.hid (HS8.out.below hb)
        clear hb y0 y1 y2 y3 y4 y5
        have hce : c2 = decide (dy < 40) := by rw [HC.out.2, decide_eq_true g1, decide_eq_true g3, decide_eq_true d1]; rfl
        go_wp2_with fail
        go_meet
        exact ⟨by rw [hce], ⟨HSX.out⟩⟩
      case rest =>
        obtain ⟨rfl, HSc⟩ := hcut
        clear HS9
        cases hc : c2 with
        | false =>
          go_wp2_with fail
          go_ret
          exact ⟨rfl, HSc.out.2.2.1⟩
        | true =>
          obtain ⟨⟨⟨g1, g3⟩, d1⟩, d3⟩ : ((gx = 0 ∧ gy = 0) ∧ dx < 40) ∧ dy < 40 := by have h := HC.out.2; rw [hc] at h; simpa using h.symm
          clear hc
          have HQ := Lib.hid (HL.out wc HSc.out.2.2 (a ++ ⟨#[92, 124]⟩ ++ b) (by simp only [ByteArray.size_append]; have e1 : (⟨#[92, 124]⟩ : ByteArray).size = 2 := rfl; omega))
          rw [parse_or (or_list a b) HPP.out.1 HPP.out.2 (HGX.out.1.symm.trans g1) (HGX.out.2.1.symm.trans g3) (by rw [← HGX.out.2.2.1]; exact d1) (by rw [← HGX.out.2.2.2]; exact d3) hb900] at HQ
          have hpo := nodes_big (parse_or (or_list a b) HPP.out.1 HPP.out.2 (HGX.out.1.symm.trans g1) (HGX.out.2.1.symm.trans g3) (by rw [← HGX.out.2.2.1]; exact d1) (by rw [← HGX.out.2.2.2]; exact d3) hb900)
          have HNO := Lib.hid hpo
          clear hpo
          have k0 := lk_cell (i := 0) HSc.out.2.2.2 rfl
          have k1 := lk_cell (i := 1) HSc.out.2.2.2 rfl
          go_wp2_with fail
          refine HQ.out.mono ?_
          rintro e w6 ⟨hb6, cs, rfl, hN⟩
          obtain ⟨ok, om, olo, ohi, oar, oak, olr, ocr, olk, ock, rfl⟩ := nin_six hN
          have HT7 := tr_new hN
          have hb7 := (Below.refl w6.heap.size w6).alloc (Nat.le_refl _) (.cells #[.int .i64 ok, .int .i64 om, .int .i64 olo, .int .i64 ohi, .slice oar olr ocr, .slice oak olk ock] 43)
          obtain ⟨w7, hw7⟩ : ∃ X, X = w6.alloc (.cells #[.int .i64 ok, .int .i64 om, .int .i64 olo, .int .i64 ohi, .slice oar olr ocr, .slice oak olk ock] 43) := ⟨_, rfl⟩
          obtain ⟨bn, hbn⟩ : ∃ X, X = w6.heap.size := ⟨_, rfl⟩
          have HSx := Lib.hid ((HSc.out.below hb6).below hb7)
          rw [← hw7] at HT7 HSx
          rw [← hbn] at HT7
          obtain ⟨x0, x1, x2, x3, x4, x5⟩ := HSx.out.1.cells
          obtain ⟨y0, y1, y2, y3, y4, y5⟩ := HSx.out.2.1.cells
          obtain ⟨n0, n1, n2, n3, n4, n5⟩ := HT7.cells
          have hbxl := blk_lt HSx.out.1.1
          have hbyl := blk_lt HSx.out.2.1.1
          have hbnl := blk_lt HT7.1
          have HTN := Lib.hid HT7
          have HW7 := Lib.hid (And.intro hw7 hbn)
          clear hb6 hb7 hw7 hbn hN HT7 HQ k0 k1
          go_upto_region 14 with fail
          rw [← HW7.out.1, ← HW7.out.2]
          refine go_start (fun w' => Below w7.heap.size w7 w') [] [.p 0, .p 1, .p 2, .t 3, .t 4, .t 5, .o 6, .o 7, .o 8, .p 9, .p 10] (by kernel_rfl) (by kernel_rfl) (fun c d v a w h => by cases d <;> exact h) ((Below.refl _ w7).drew) (fun w8 hS8 => ?_)
          repeat first
          | refine go_p (v := ?_) (b := ?_) rfl (.inl ⟨by rfl, ?_⟩) ?_ ?_
            rotate_left 2
            · intro w'; go_simp; with_reducible rfl
            · simp only [Act.put, pu_, pz_, ps_, i64_w, i32_w]; rfl
          | refine go_t (v := ?_) (b := ?_) rfl (.inl ⟨by rfl, ?_⟩) ?_ ?_
            rotate_left 2
            · intro w' hS; have hc := Below.cells hS; go_simp; with_reducible rfl
            · simp only [Act.put, pu_, pz_, ps_, i64_w, i32_w]; rfl
          obtain ⟨w9, hw9⟩ : ∃ X, X = w8.alloc (.cells #[.int .i64 kk, .int .i64 km, .int .i64 klo, .int .i64 khi, .slice kar klr kcr, .slice kak klk kck, .int .i64 jk, .int .i64 jm, .int .i64 jlo, .int .i64 jhi, .slice jar jlr jcr, .slice jak jlk jck] 43) := ⟨_, rfl⟩
          have hb89 : Below w8.heap.size w8 w9 := by rw [hw9]; exact (Below.refl _ w8).alloc (Nat.le_refl _) _
          have hS9 : Below w7.heap.size w7 w9 := hS8.trans (hb89.mono hS8.size)
          have hn9 : w9.heap[w8.heap.size]? = some (.cells #[.int .i64 kk, .int .i64 km, .int .i64 klo, .int .i64 khi, .slice kar klr kcr, .slice kak klk kck, .int .i64 jk, .int .i64 jm, .int .i64 jlo, .int .i64 jhi, .slice jar jlr jcr, .slice jak jlk jck] 43 (0, 0)) := by rw [hw9]; exact heap_alloc_new _ _
          refine go_val (v := .slice (some ⟨w8.heap.size, 0, none⟩) 2 2) (w1 := w9) rfl (by rfl) (by rw [hw9]; go_simp; first | done | rfl) (by simp only [Act.put, List.setIfInBounds_toArray, List.set_cons_zero, List.set_cons_succ]; rfl) hS9 ?_
          have HS9 := Lib.hid (HSx.out.below hS9)
          have HTA := Lib.hid (alt_of2 w9 w8.heap.size x y _ _ hn9 HS9.out.1.2 HS9.out.2.1.2 (by have := HNN.out; omega))
          refine go_call rfl (by rfl) Tryz.func26 (by kernel_rfl) rfl (by simp only [List.map_toArray, List.map_cons, List.map_nil]; rfl) HTA.out ?_
          rintro e wA ⟨cs, rfl, hNA, hbA⟩
          obtain ⟨pk, pm, plo, phi, par, pak, plr, pcr, plk, pck, rfl⟩ := nin_six hNA
          have hSA : Below w7.heap.size w7 wA := hS9.trans (hbA.mono hS9.size)
          refine ⟨_, _, rfl, hSA, (by simp only [Act.put, List.setIfInBounds_toArray, List.set_cons_zero, List.set_cons_succ]; rfl), ?_⟩
          have HSM := Lib.hid (Same_calls wA.heap.size (altT [x, y]) (altT [x, y]) _ _ wA (Nat.le_refl _) (HTN.out.below hSA).2 (hNA.mono (fun b hb => hb.2)) (by have := HNO.out; omega) (by have := HNO.out; omega))
          rw [same_self _ HNO.out] at HSM
          refine go_call rfl (by rfl) Tryz.func25 (by kernel_rfl) rfl (by simp only [List.map_toArray, List.map_cons, List.map_nil]; rfl) HSM.out ?_
          rintro e wB ⟨rfl, hbB⟩
          have hSB : Below w7.heap.size w7 wB := hSA.trans (hbB.mono hSA.size)
          refine ⟨_, _, rfl, hSB, (by simp only [Act.put, List.setIfInBounds_toArray, List.set_cons_zero, List.set_cons_succ]; rfl), ?_⟩
          repeat first
          | refine go_p (v := ?_) (b := ?_) rfl (.inl ⟨by rfl, ?_⟩) ?_ ?_
            rotate_left 2
            · intro w'; go_simp; with_reducible rfl
            · simp only [Act.put, pu_, pz_, ps_, i64_w, i32_w]; rfl
          refine go_done ?_
          have HBB := Lib.hid (HSx.out.below hSB).2.2.1
          clear hS8 hS9 hSA hSB hbA hbB hb89 hw9 hn9 hNA HSM HTA HS9 HSx HTN HW7 n0 n1 n2 n3 n4 n5 x0 x1 x2 x3 x4 x5 y0 y1 y2 y3 y4 y5
          go_wp2_with fail
          go_ret
          exact ⟨rfl, HBB.out⟩
end Go.Proofs.YtamhkdlcoghdbaaGreatDoor.PCls
