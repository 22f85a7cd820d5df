/- Out of Qe (wip/tools/prune2.py): the declarations alone that the texts of the trees name. -/
import Derived.Test.YtamhkdlcoghdbaaGreatDoorVQQc
import Derived.Test.YtamhkdlcoghdbaaGreatDoorVQQd
import Derived.Test.YtamhkdlcoghdbaaGreatDoorVQQt
namespace Go.Proofs.YtamhkdlcoghdbaaGreatDoor.PCls
open Go.RowKit Go.Shelf Go.Proofs.YtamhkdlcoghdbaaGreatDoorW.PrintWords Go.Proofs.YtamhkdlcoghdbaaGreatDoorW.PrintLast Go.Proofs.YtamhkdlcoghdbaaGreatDoorW.PrintMore
set_option linter.unusedVariables false
set_option linter.unusedSimpArgs false
/-- a tree in a box, whatever its cells are -/
def BoxAt (w : World) (b : Nat) (t : NT) : Prop := ∃ (k m lo hi : Int) (ar ak : Option Addr) (lr cr lk ck : Nat), TrAt w b t (.int .i64 k) (.int .i64 m) (.int .i64 lo) (.int .i64 hi) (.slice ar lr cr) (.slice ak lk ck)
theorem BoxAt.below {w w' : World} {b : Nat} {t : NT} (h : BoxAt w b t) (hb : Below w.heap.size w w') : BoxAt w' b t := by
  obtain ⟨k, m, lo, hi, ar, ak, lr, cr, lk, ck, h⟩ := h
  exact ⟨k, m, lo, hi, ar, ak, lr, cr, lk, ck, h.below hb⟩
theorem rep_list (a : ByteArray) (lo hi : Int) : ((⟨#[92, 40]⟩ : ByteArray) ++ a ++ ⟨#[92, 41, 92, 123]⟩ ++ digB lo ++ ⟨#[44]⟩ ++ digB hi ++ ⟨#[92, 125]⟩).data.toList = ((⟨#[92, 40]⟩ : ByteArray) ++ a ++ ⟨#[92, 41]⟩).data.toList ++ 92 :: 123 :: ((digB lo).data.toList ++ [44] ++ (digB hi).data.toList ++ [92, 125]) := by simp
theorem star_list (a : ByteArray) : ((⟨#[92, 40]⟩ : ByteArray) ++ a ++ ⟨#[92, 41, 42]⟩).data.toList = ((⟨#[92, 40]⟩ : ByteArray) ++ a ++ ⟨#[92, 41]⟩).data.toList ++ [42] := by simp
theorem grp_size (a : ByteArray) : ((⟨#[92, 40]⟩ : ByteArray) ++ a ++ ⟨#[92, 41]⟩).size = a.size + 4 := by
  simp only [ByteArray.size_append]
  have e1 : (⟨#[92, 40]⟩ : ByteArray).size = 2 := rfl
  have e2 : (⟨#[92, 41]⟩ : ByteArray).size = 2 := rfl
  omega
theorem grp_last (a : ByteArray) : Lx.byt ((⟨#[92, 40]⟩ : ByteArray) ++ a ++ ⟨#[92, 41]⟩) (((⟨#[92, 40]⟩ : ByteArray) ++ a ++ ⟨#[92, 41]⟩).size - 1) = 41 := by
  have hd : ((⟨#[92, 40]⟩ : ByteArray) ++ a ++ ⟨#[92, 41]⟩).data.toList.drop (a.size + 3) = 41 :: [] := by
    rw [grp_list, show a.size + 3 = (a.size + 1) + 1 + 1 by omega, List.drop_succ_cons, List.drop_succ_cons, List.drop_append, List.drop_eq_nil_of_le (by rw [len_size]; omega), len_size, show a.size + 1 - a.size = 1 by omega]
    rfl
  rw [grp_size, show a.size + 4 - 1 = a.size + 3 by omega, (byt_drop hd).2.1]
  rfl
theorem rep_size (a : ByteArray) (lo hi : Int) (ha : a.size ≤ 900) (h0 : 0 ≤ lo) (h1 : 0 ≤ hi) : ((⟨#[92, 40]⟩ : ByteArray) ++ a ++ ⟨#[92, 41, 92, 123]⟩ ++ digB lo ++ ⟨#[44]⟩ ++ digB hi ++ ⟨#[92, 125]⟩).size ≤ 2000 := by
  have hd : ∀ n : Int, 0 ≤ n → (digB n).size ≤ 20 := fun n hn => by
    unfold digB
    rw [if_neg (by omega)]
    exact dig_size _ _
  have a1 := hd lo h0
  have a2 := hd hi h1
  simp only [ByteArray.size_append]
  have e1 : (⟨#[92, 40]⟩ : ByteArray).size = 2 := rfl
  have e2 : (⟨#[92, 41, 92, 123]⟩ : ByteArray).size = 4 := rfl
  have e3 : (⟨#[44]⟩ : ByteArray).size = 1 := rfl
  have e4 : (⟨#[92, 125]⟩ : ByteArray).size = 2 := rfl
  omega
/-- the trees so far -/
def OfSt (W : World) (chars fold : Bool) (bx : Nat) (x : NT) (w : World) : Prop := BoxAt w bx x ∧ MdAt W w chars fold
theorem OfSt.below {W : World} {chars fold : Bool} {bx : Nat} {x : NT} {w w' : World} (h : OfSt W chars fold bx x w) (hb : Below w.heap.size w w') : OfSt W chars fold bx x w' := ⟨h.1.below hb, h.2.below hb⟩
set_option maxHeartbeats 16000000 in
set_option maxRecDepth 100000 in
theorem poften_calls (a : ByteArray) (lo hi : Int) (chars fold : Bool) (W : World) (m : Int) (hT : Lib.Utf8Tabs 0 1 W) (hm : W.cell? ⟨2, 0, none⟩ = some (.int .i64 m)) (h2 : 2 < W.heap.size) (hsa : a.size ≤ 140737488351232) :
    Calls Tryz.prog 6 #[.string a, .int .i64 lo, .int .i64 hi, .agg #[.bool chars, .bool fold]] W fun e w' => e = .returned (.bool true) ∧ Below W.heap.size W w' := by
  have hb0 := (Below.refl W.heap.size W).alloc (Nat.le_refl _) (.cells #[.bool chars, .bool fold] 23)
  have hg0 := heap_alloc_new W (.cells #[.bool chars, .bool fold] 23)
  have HX := Lib.hid (pex_calls (W.alloc (.cells #[.bool chars, .bool fold] 23)) m ((hb0.cell (p := ⟨2, 0, none⟩) h2).trans hm) (Nat.lt_of_lt_of_le h2 hb0.size) (tabs_below hT hb0))
  have HL := Lib.hid (fun (w : World) (hb : MdAt W w chars fold) (s : ByteArray) (hs : s.size ≤ 140737488351232) => parse_calls w s chars fold m hs ((hb.1.cell (p := ⟨2, 0, none⟩) h2).trans hm) (Nat.lt_of_lt_of_le h2 hb.1.size) (tabs_below hT hb.1))
  have HB0 : Hid (MdAt W _ chars fold) := Lib.hid (And.intro hb0 hg0)
  clear hb0 hg0 hT hm h2
  go_enter Tryz.func6, Tryz.ntmps6
  go_wp2_with fail
  refine HX.out.mono ?_
  rintro e w1 ⟨rfl, hb⟩
  have HB := Lib.hid (HB0.out.below hb)
  clear hb HX HB0
  by_cases hall : a.size ≤ 900 ∧ 0 ≤ lo ∧ lo ≤ 255 ∧ lo ≤ hi ∧ hi ≤ 255
  rotate_left
  · go_upto_region 2 with fail
    go_cut [40] (fun s40 wc => s40 = .bool true ∧ wc = w1)
    case first =>
      by_cases g0 : (900 : Int) < (a.size : Int)
      · go_wp2_with fail
        go_meet
        exact ⟨rfl, rfl⟩
      by_cases g1 : lo < 0
      · go_wp2_with fail
        go_meet
        exact ⟨rfl, rfl⟩
      by_cases g2 : 255 < lo
      · go_wp2_with fail
        go_meet
        exact ⟨rfl, rfl⟩
      by_cases g3 : hi < lo
      · go_wp2_with fail
        go_meet
        exact ⟨rfl, rfl⟩
      by_cases g4 : 255 < hi
      · go_wp2_with fail
        go_meet
        exact ⟨rfl, rfl⟩
      exact absurd ⟨by omega, by omega, by omega, by omega, by omega⟩ hall
    case rest =>
      obtain ⟨rfl, hw⟩ := hcut
      subst wc
      go_wp2_with fail
      go_ret
      exact ⟨rfl, HB.out.1⟩
  obtain ⟨ha, hl0, hl1, hh0, hh1⟩ := hall
  have g0 : ¬ (900 : Int) < (a.size : Int) := by omega
  have g1 : ¬ lo < 0 := by omega
  have g2 : ¬ 255 < lo := by omega
  have g3 : ¬ hi < lo := by omega
  have g4 : ¬ 255 < hi := by omega
  have k0 := lk_cell (i := 0) HB.out.2 rfl
  have k1 := lk_cell (i := 1) HB.out.2 rfl
  obtain ⟨z, hz⟩ : ∃ z, z = (⟨#[92, 40]⟩ : ByteArray) ++ a ++ ⟨#[92, 41]⟩ := ⟨_, rfl⟩
  have HZ := Lib.hid hz
  have HP := Lib.hid (HL.out w1 HB.out z (by rw [hz, grp_size]; omega))
  clear hz hsa
  rcases h1 : parseS z chars fold with x | x
  · rw [h1] at HP
    clear h1
    go_wp2_with fail
    rw [← HZ.out]
    refine HP.out.mono ?_
    rintro e w2 ⟨hb2, g, rfl, hg, hgc⟩
    have HB3 := Lib.hid ((HB.out.below hb2).alloc (.cells #[.int .i64 0, .int .i64 0, .int .i64 0, .int .i64 0, .slice none 0 0, .slice none 0 0] 43))
    clear hb2 hg hgc HP HL HB k0 k1
    go_wp2_with fail
    go_ret
    exact ⟨rfl, HB3.out.1⟩
  rw [h1] at HP
  go_wp2_with fail
  rw [← HZ.out]
  refine HP.out.mono ?_
  rintro e w2 ⟨hb2, cs, rfl, hN⟩
  obtain ⟨km, klo, khi, kar, kak, klr, kcr, klk, kck, rfl⟩ := six' hN
  have HX3 := Lib.hid (tr_new hN)
  have HB3 := Lib.hid ((HB.out.below hb2).alloc (.cells #[.int .i64 x.k, .int .i64 km, .int .i64 klo, .int .i64 khi, .slice kar klr kcr, .slice kak klk kck] 43))
  obtain ⟨w3, hw3⟩ : ∃ X, X = w2.alloc (.cells #[.int .i64 x.k, .int .i64 km, .int .i64 klo, .int .i64 khi, .slice kar klr kcr, .slice kak klk kck] 43) := ⟨_, rfl⟩
  obtain ⟨bx, hbx⟩ : ∃ X, X = w2.heap.size := ⟨_, rfl⟩
  rw [← hw3] at HX3 HB3
  rw [← hbx] at HX3
  have HE := Lib.hid (And.intro hw3 hbx)
  have HNN := Lib.hid (nodes_big h1)
  have HPP := Lib.hid h1
  clear hb2 hN HP HB k0 k1 hw3 hbx h1
  go_upto_region 5 with fail
  rw [← HE.out.1, ← HE.out.2]
  clear HE
  obtain ⟨kx, hkx⟩ : ∃ k, k = x.k := ⟨_, rfl⟩
  obtain ⟨dx, hdx⟩ : ∃ g, g = depthT x := ⟨_, rfl⟩
  rw [← hkx] at HX3 ⊢
  have HK := Lib.hid (And.intro hkx hdx)
  clear hkx hdx
  have HD := Lib.hid (depth_calls x _ w3 HX3.out.2 (by have := HNN.out; omega))
  rw [← HK.out.2] at HD
  obtain ⟨x0, x1, x2, x3, x4, x5⟩ := HX3.out.cells
  by_cases g7 : kx = 7
  rotate_left
  · have n7 : (kx == 7) = false := by rw [beq_eq_false_iff_ne]; exact g7
    go_wp2_with fail
    go_ret
    exact ⟨rfl, HB3.out.1⟩
  subst g7
  go_wp2_with fail
  refine HD.out.mono ?_
  rintro e w4 ⟨rfl, hb⟩
  have HX4 := Lib.hid (HX3.out.below hb)
  have HB4 := Lib.hid (HB3.out.below hb)
  clear hb HX3 HB3 HD x0 x1 x2 x3 x4 x5
  by_cases gd : 39 < dx
  · go_wp2_with fail
    go_ret
    exact ⟨rfl, HB4.out.1⟩
  have HS4 := Lib.hid (show OfSt W chars fold bx x w4 from ⟨⟨_, _, _, _, _, _, _, _, _, _, HX4.out⟩, HB4.out⟩)
  have HR1 := Lib.hid (parse_rep (lo := lo) (hi := hi) (rep_list a lo hi) (by rw [← HZ.out]; exact HPP.out) HK.out.1.symm (by rw [← HK.out.2]; exact gd) (by rw [grp_size]; omega) (grp_last a) (.inr ⟨rfl, hl0, hl1, hh0, hh1⟩))
  have HR2 := Lib.hid (parse_rep (lo := 0) (hi := -1) (star_list a) (by rw [← HZ.out]; exact HPP.out) HK.out.1.symm (by rw [← HK.out.2]; exact gd) (by rw [grp_size]; omega) (grp_last a) (.inl ⟨rfl, rfl, rfl⟩))
  clear HX4 HB4
  go_upto_region 7 with fail
  go_cut [12, 13] (fun s12 s13 wc => ∃ bn, s12 = .pointer (some ⟨bn, 0, none⟩) ∧ s13 = .nilIface ∧ Aside0 (OfSt W chars fold bx x wc ∧ BoxAt wc bn (.mk 9 0 lo hi [] [x])))
  case first =>
    have HPz := Lib.hid (fun (w : World) (hb : Below w4.heap.size w4 w) => HL.out w (HS4.out.2.below hb) ((⟨#[92, 40]⟩ : ByteArray) ++ a ++ ⟨#[92, 41, 92, 123]⟩ ++ digB lo ++ ⟨#[44]⟩ ++ digB hi ++ ⟨#[92, 125]⟩) (by have := rep_size a lo hi ha hl0 (by omega); omega))
    rw [HR1.out] at HPz
    have HDl := Lib.hid (fun w => digits_calls27 lo hl0 hl1 w)
    have HDh := Lib.hid (fun w => digits_calls27 hi (by omega) hh1 w)
    have s1 : (9223372036854775807 < 2 + a.size) = False := by rw [eq_iff_iff, iff_false]; omega
    have s2 : (9223372036854775807 < 2 + a.size + 4) = False := by rw [eq_iff_iff, iff_false]; omega
    have l1 : (digB lo).size ≤ 20 := by unfold digB; rw [if_neg (by omega)]; exact dig_size _ _
    have l2 : (digB hi).size ≤ 20 := by unfold digB; rw [if_neg (by omega)]; exact dig_size _ _
    have s3 : (9223372036854775807 < 2 + a.size + 4 + (digB lo).size) = False := by rw [eq_iff_iff, iff_false]; omega
    have s4 : (9223372036854775807 < 2 + a.size + 4 + (digB lo).size + 1) = False := by rw [eq_iff_iff, iff_false]; omega
    have s5 : (9223372036854775807 < 2 + a.size + 4 + (digB lo).size + 1 + (digB hi).size) = False := by rw [eq_iff_iff, iff_false]; omega
    have s6 : (9223372036854775807 < 2 + a.size + 4 + (digB lo).size + 1 + (digB hi).size + 2) = False := by rw [eq_iff_iff, iff_false]; omega
    clear l1 l2
    have k0 := lk_cell (i := 0) HS4.out.2.2 rfl
    have k1 := lk_cell (i := 1) HS4.out.2.2 rfl
    have hkl := blk_lt HS4.out.2.2
    refine goT_start (fun w' => Below w4.heap.size w4 w') (.p 0 (.p 1 (.p 2 (.p 3 (.p 7 (.t 11 (.two 4 16 (.p 5 (.p 6 (.two 8 16 (.p 9 (.p 10 (.two 12 16 (.p 13 (.p 14 (.p 15 (.o 16 (.o 17 (.p 18 .nil)))))) (.o 12 (.p 13 (.p 14 (.p 15 (.o 17 (.p 18 .nil))))))))) (.o 8 (.p 9 (.p 10 (.o 12 (.p 13 (.p 14 (.p 15 (.o 17 (.p 18 .nil)))))))))))) (.o 4 (.p 5 (.p 6 (.o 8 (.p 9 (.p 10 (.o 12 (.p 13 (.p 14 (.p 15 (.o 17 (.p 18 .nil))))))))))))))))))) (by kernel_rfl) (by kernel_rfl) (fun c d v a w h => by cases d <;> exact h) ((Below.refl _ w4).drew) (fun w5 hS5 => ?_)
    repeat first
    | refine goT_p (v := ?_) (b := ?_) rfl (.inl ⟨by rfl, ?_⟩) ?_ ?_
      rotate_left 2
      · intro w'; go_simp; with_reducible rfl
      · simp only [Act.put, pu_, pz_, ps_, i64_w, i32_w]; rfl
    | refine goT_t (v := ?_) (b := ?_) rfl (.inl ⟨by rfl, ?_⟩) ?_ ?_
      rotate_left 2
      · intro w' hS; have hc := Below.cells hS; go_simp; with_reducible rfl
      · simp only [Act.put, pu_, pz_, ps_, i64_w, i32_w]; rfl
    refine goT_two ?_ ?_
    · clear HR1
      refine (up_call rfl (by rfl) Tryz.func27 (by kernel_rfl) rfl (by simp only [List.map_toArray, List.map_cons, List.map_nil]; rfl) (HDl.out w5) ?_)
      rintro e w6 ⟨rfl, hb⟩
      have hS6 : Below w4.heap.size w4 w6 := hS5.trans (hb.mono hS5.size)
      clear hb
      refine ⟨_, _, rfl, hS6, (by simp only [Act.put, List.setIfInBounds_toArray, List.set_cons_zero, List.set_cons_succ]; rfl), ?_⟩
      repeat first
      | refine goT_p (v := ?_) (b := ?_) rfl (.inl ⟨by rfl, ?_⟩) ?_ ?_
        rotate_left 2
        · intro w'; go_simp; with_reducible rfl
        · simp only [Act.put, pu_, pz_, ps_, i64_w, i32_w]; rfl
      | refine goT_t (v := ?_) (b := ?_) rfl (.inl ⟨by rfl, ?_⟩) ?_ ?_
        rotate_left 2
        · intro w' hS; have hc := Below.cells hS; go_simp; with_reducible rfl
        · simp only [Act.put, pu_, pz_, ps_, i64_w, i32_w]; rfl
      refine goT_two ?_ ?_
      · clear HR2
        refine (up_call rfl (by rfl) Tryz.func27 (by kernel_rfl) rfl (by simp only [List.map_toArray, List.map_cons, List.map_nil]; rfl) (HDh.out w6) ?_)
        rintro e w7 ⟨rfl, hb⟩
        have hS7 : Below w4.heap.size w4 w7 := hS6.trans (hb.mono hS6.size)
        clear hb
        refine ⟨_, _, rfl, hS7, (by simp only [Act.put, List.setIfInBounds_toArray, List.set_cons_zero, List.set_cons_succ]; rfl), ?_⟩
        repeat first
        | refine goT_p (v := ?_) (b := ?_) rfl (.inl ⟨by rfl, ?_⟩) ?_ ?_
          rotate_left 2
          · intro w'; go_simp; with_reducible rfl
          · simp only [Act.put, pu_, pz_, ps_, i64_w, i32_w]; rfl
        | refine goT_t (v := ?_) (b := ?_) rfl (.inl ⟨by rfl, ?_⟩) ?_ ?_
          rotate_left 2
          · intro w' hS; have hc := Below.cells hS; go_simp; with_reducible rfl
          · simp only [Act.put, pu_, pz_, ps_, i64_w, i32_w]; rfl
        refine goT_two ?_ ?_
        · clear HDl
          refine (up_call rfl (by rfl) Tryz.func19 (by kernel_rfl) rfl (by simp only [List.map_toArray, List.map_cons, List.map_nil]; rfl) (HPz.out w7 hS7) ?_)
          rintro e w8 ⟨hb, cs, rfl, hN⟩
          obtain ⟨rk, rm, rlo, rhi, rar, rak, rlr, rcr, rlk, rck, rfl⟩ := nin_six hN
          have hS8 : Below w4.heap.size w4 w8 := hS7.trans (hb.mono hS7.size)
          clear hb
          refine ⟨_, _, rfl, hS8, (by simp only [Act.put, List.setIfInBounds_toArray, List.set_cons_zero, List.set_cons_succ]; rfl), ?_⟩
          repeat first
          | refine goT_p (v := ?_) (b := ?_) rfl (.inl ⟨by rfl, ?_⟩) ?_ ?_
            rotate_left 2
            · intro w'; go_simp; with_reducible rfl
            · simp only [Act.put, pu_, pz_, ps_, i64_w, i32_w]; rfl
          | refine goT_t (v := ?_) (b := ?_) rfl (.inl ⟨by rfl, ?_⟩) ?_ ?_
            rotate_left 2
            · intro w' hS; have hc := Below.cells hS; go_simp; with_reducible rfl
            · simp only [Act.put, pu_, pz_, ps_, i64_w, i32_w]; rfl
          obtain ⟨w9, hw⟩ : ∃ X, X = w8.alloc (.cells #[.int .i64 0, .int .i64 0, .int .i64 0, .int .i64 0, .slice none 0 0, .slice none 0 0] 43) := ⟨_, rfl⟩
          have hS9 : Below w4.heap.size w4 w9 := by rw [hw]; exact hS8.alloc hS8.size _
          have hbox : w9.heap[w8.heap.size]? = some (.cells #[.int .i64 0, .int .i64 0, .int .i64 0, .int .i64 0, .slice none 0 0, .slice none 0 0] 43 (0, 0)) := by rw [hw]; exact heap_alloc_new _ _
          refine goT_o (up_val (v := .pointer (some ⟨w8.heap.size, 0, none⟩)) (w1 := w9) rfl (by rfl) (by rw [hw]; go_simp; first | done | rfl) (by simp only [Act.put, List.setIfInBounds_toArray, List.set_cons_zero, List.set_cons_succ]; rfl) hS9 ?_)
          have hlb : w4.heap.size ≤ w8.heap.size := hS8.size
          obtain ⟨bn, hbn⟩ : ∃ X, X = w8.heap.size := ⟨_, rfl⟩
          rw [← hbn] at hbox hlb ⊢
          have HBN := Lib.hid (And.intro hbn hw)
          clear hbn hw
          replace hN : NIn w9 (fun b => b ≠ bn ∧ b < w9.heap.size) _ _ := (hN.move (w' := w9) (fun b hb => by rw [HBN.out.2]; exact heap_alloc_old _ _ hb.2)).mono (fun b hb => ⟨by have := HBN.out.1; omega, by rw [HBN.out.2]; simp; omega⟩)
          have c0 := lk_cell (i := 0) hbox rfl
          have c1 := lk_cell (i := 1) hbox rfl
          have c2 := lk_cell (i := 2) hbox rfl
          have c3 := lk_cell (i := 3) hbox rfl
          have c4 := lk_cell (i := 4) hbox rfl
          have c5 := lk_cell (i := 5) hbox rfl
          have hf : ∀ o, w9.frozen? ⟨bn, o, none⟩ = false := fun o => by simp [World.frozen?, hbox]
          have hlt := blk_lt hbox
          have hSf := put6_below hS9 hlb 0 (.int .i64 rk) (.int .i64 rm) (.int .i64 rlo) (.int .i64 rhi) (.slice rar rlr rcr) (.slice rak rlk rck)
          refine goT_o (up_skip (w1 := put6 w9 bn 0 (.int .i64 rk) (.int .i64 rm) (.int .i64 rlo) (.int .i64 rhi) (.slice rar rlr rcr) (.slice rak rlk rck)) rfl (by rfl) (by unfold put6; go_simp; first | done | rfl) hSf ?_)
          repeat first
          | refine goT_p (v := ?_) (b := ?_) rfl (.inl ⟨by rfl, ?_⟩) ?_ ?_
            rotate_left 2
            · intro w'; go_simp; with_reducible rfl
            · simp only [Act.put, pu_, pz_, ps_, i64_w, i32_w]; rfl
          | refine goT_t (v := ?_) (b := ?_) rfl (.inl ⟨by rfl, ?_⟩) ?_ ?_
            rotate_left 2
            · intro w' hS; have hc := Below.cells hS; go_simp; with_reducible rfl
            · simp only [Act.put, pu_, pz_, ps_, i64_w, i32_w]; rfl
          refine goT_done ?_
          have HF := Lib.hid (show OfSt W chars fold bx x (put6 w9 bn 0 (.int .i64 rk) (.int .i64 rm) (.int .i64 rlo) (.int .i64 rhi) (.slice rar rlr rcr) (.slice rak rlk rck)) ∧ BoxAt (put6 w9 bn 0 (.int .i64 rk) (.int .i64 rm) (.int .i64 rlo) (.int .i64 rhi) (.slice rar rlr rcr) (.slice rak rlk rck)) bn _ from ⟨HS4.out.below hSf, ⟨rk, rm, rlo, rhi, rar, rak, rlr, rcr, rlk, rck, put6_res hbox _ _ _ _ _ _, (hN.move (fun b hb => put6_other _ _ _ _ _ _ _ _ _ b hb.1)).mono (fun b hb => by rw [put6_size]; exact hb.2)⟩⟩)
          clear c0 c1 c2 c3 c4 c5 hf hSf hbox hN
          go_wp2_with fail
          go_meet
          exact ⟨bn, rfl, rfl, ⟨HF.out⟩⟩
        · clear HDl
          obtain ⟨w10, hw⟩ : ∃ X, X = w7.alloc (.cells #[.int .i64 0, .int .i64 0, .int .i64 0, .int .i64 0, .slice none 0 0, .slice none 0 0] 43) := ⟨_, rfl⟩
          have hS10 : Below w4.heap.size w4 w10 := by rw [hw]; exact hS7.alloc hS7.size _
          have hbox : w10.heap[w7.heap.size]? = some (.cells #[.int .i64 0, .int .i64 0, .int .i64 0, .int .i64 0, .slice none 0 0, .slice none 0 0] 43 (0, 0)) := by rw [hw]; exact heap_alloc_new _ _
          refine (up_val (v := .pointer (some ⟨w7.heap.size, 0, none⟩)) (w1 := w10) rfl (by rfl) (by rw [hw]; go_simp; first | done | rfl) (by simp only [Act.put, List.setIfInBounds_toArray, List.set_cons_zero, List.set_cons_succ]; rfl) hS10 ?_)
          have hlb : w4.heap.size ≤ w7.heap.size := hS7.size
          obtain ⟨bn, hbn⟩ : ∃ X, X = w7.heap.size := ⟨_, rfl⟩
          rw [← hbn] at hbox hlb ⊢
          have HBN := Lib.hid (And.intro hbn hw)
          clear hbn hw
          refine goT_o (up_call rfl (by rfl) Tryz.func19 (by kernel_rfl) rfl (by simp only [List.map_toArray, List.map_cons, List.map_nil]; rfl) (HPz.out w10 hS10) ?_)
          rintro e w11 ⟨hb, cs, rfl, hN⟩
          obtain ⟨rk, rm, rlo, rhi, rar, rak, rlr, rcr, rlk, rck, rfl⟩ := nin_six hN
          have hS11 : Below w4.heap.size w4 w11 := hS10.trans (hb.mono hS10.size)
          have hlt := blk_lt hbox
          replace hbox := (hb.block _ hlt).trans hbox
          replace hN := hN.mono (P' := fun b => b ≠ bn ∧ b < w11.heap.size) (fun b hb => ⟨by omega, hb.2⟩)
          clear hb
          refine ⟨_, _, rfl, hS11, (by simp only [Act.put, List.setIfInBounds_toArray, List.set_cons_zero, List.set_cons_succ]; rfl), ?_⟩
          repeat first
          | refine goT_p (v := ?_) (b := ?_) rfl (.inl ⟨by rfl, ?_⟩) ?_ ?_
            rotate_left 2
            · intro w'; go_simp; with_reducible rfl
            · simp only [Act.put, pu_, pz_, ps_, i64_w, i32_w]; rfl
          | refine goT_t (v := ?_) (b := ?_) rfl (.inl ⟨by rfl, ?_⟩) ?_ ?_
            rotate_left 2
            · intro w' hS; have hc := Below.cells hS; go_simp; with_reducible rfl
            · simp only [Act.put, pu_, pz_, ps_, i64_w, i32_w]; rfl
          have c0 := lk_cell (i := 0) hbox rfl
          have c1 := lk_cell (i := 1) hbox rfl
          have c2 := lk_cell (i := 2) hbox rfl
          have c3 := lk_cell (i := 3) hbox rfl
          have c4 := lk_cell (i := 4) hbox rfl
          have c5 := lk_cell (i := 5) hbox rfl
          have hf : ∀ o, w11.frozen? ⟨bn, o, none⟩ = false := fun o => by simp [World.frozen?, hbox]
          have hlt := blk_lt hbox
          have hSf := put6_below hS11 hlb 0 (.int .i64 rk) (.int .i64 rm) (.int .i64 rlo) (.int .i64 rhi) (.slice rar rlr rcr) (.slice rak rlk rck)
          refine goT_o (up_skip (w1 := put6 w11 bn 0 (.int .i64 rk) (.int .i64 rm) (.int .i64 rlo) (.int .i64 rhi) (.slice rar rlr rcr) (.slice rak rlk rck)) rfl (by rfl) (by unfold put6; go_simp; first | done | rfl) hSf ?_)
          repeat first
          | refine goT_p (v := ?_) (b := ?_) rfl (.inl ⟨by rfl, ?_⟩) ?_ ?_
            rotate_left 2
            · intro w'; go_simp; with_reducible rfl
            · simp only [Act.put, pu_, pz_, ps_, i64_w, i32_w]; rfl
          | refine goT_t (v := ?_) (b := ?_) rfl (.inl ⟨by rfl, ?_⟩) ?_ ?_
            rotate_left 2
            · intro w' hS; have hc := Below.cells hS; go_simp; with_reducible rfl
            · simp only [Act.put, pu_, pz_, ps_, i64_w, i32_w]; rfl
          refine goT_done ?_
          have HF := Lib.hid (show OfSt W chars fold bx x (put6 w11 bn 0 (.int .i64 rk) (.int .i64 rm) (.int .i64 rlo) (.int .i64 rhi) (.slice rar rlr rcr) (.slice rak rlk rck)) ∧ BoxAt (put6 w11 bn 0 (.int .i64 rk) (.int .i64 rm) (.int .i64 rlo) (.int .i64 rhi) (.slice rar rlr rcr) (.slice rak rlk rck)) bn _ from ⟨HS4.out.below hSf, ⟨rk, rm, rlo, rhi, rar, rak, rlr, rcr, rlk, rck, put6_res hbox _ _ _ _ _ _, (hN.move (fun b hb => put6_other _ _ _ _ _ _ _ _ _ b hb.1)).mono (fun b hb => by rw [put6_size]; exact hb.2)⟩⟩)
          clear c0 c1 c2 c3 c4 c5 hf hSf hbox hN
          go_wp2_with fail
          go_meet
          exact ⟨bn, rfl, rfl, ⟨HF.out⟩⟩
      · clear HR2
        obtain ⟨w12, hw⟩ : ∃ X, X = w6.alloc (.cells #[.int .i64 0, .int .i64 0, .int .i64 0, .int .i64 0, .slice none 0 0, .slice none 0 0] 43) := ⟨_, rfl⟩
        have hS12 : Below w4.heap.size w4 w12 := by rw [hw]; exact hS6.alloc hS6.size _
        have hbox : w12.heap[w6.heap.size]? = some (.cells #[.int .i64 0, .int .i64 0, .int .i64 0, .int .i64 0, .slice none 0 0, .slice none 0 0] 43 (0, 0)) := by rw [hw]; exact heap_alloc_new _ _
        refine (up_val (v := .pointer (some ⟨w6.heap.size, 0, none⟩)) (w1 := w12) rfl (by rfl) (by rw [hw]; go_simp; first | done | rfl) (by simp only [Act.put, List.setIfInBounds_toArray, List.set_cons_zero, List.set_cons_succ]; rfl) hS12 ?_)
        have hlb : w4.heap.size ≤ w6.heap.size := hS6.size
        obtain ⟨bn, hbn⟩ : ∃ X, X = w6.heap.size := ⟨_, rfl⟩
        rw [← hbn] at hbox hlb ⊢
        have HBN := Lib.hid (And.intro hbn hw)
        clear hbn hw
        refine goT_o (up_call rfl (by rfl) Tryz.func27 (by kernel_rfl) rfl (by simp only [List.map_toArray, List.map_cons, List.map_nil]; rfl) (HDh.out w12) ?_)
        rintro e w13 ⟨rfl, hb⟩
        have hS13 : Below w4.heap.size w4 w13 := hS12.trans (hb.mono hS12.size)
        replace hbox := (hb.block _ (blk_lt hbox)).trans hbox
        clear hb
        refine ⟨_, _, rfl, hS13, (by simp only [Act.put, List.setIfInBounds_toArray, List.set_cons_zero, List.set_cons_succ]; rfl), ?_⟩
        repeat first
        | refine goT_p (v := ?_) (b := ?_) rfl (.inl ⟨by rfl, ?_⟩) ?_ ?_
          rotate_left 2
          · intro w'; go_simp; with_reducible rfl
          · simp only [Act.put, pu_, pz_, ps_, i64_w, i32_w]; rfl
        | refine goT_t (v := ?_) (b := ?_) rfl (.inl ⟨by rfl, ?_⟩) ?_ ?_
          rotate_left 2
          · intro w' hS; have hc := Below.cells hS; go_simp; with_reducible rfl
          · simp only [Act.put, pu_, pz_, ps_, i64_w, i32_w]; rfl
        refine goT_o (up_call rfl (by rfl) Tryz.func19 (by kernel_rfl) rfl (by simp only [List.map_toArray, List.map_cons, List.map_nil]; rfl) (HPz.out w13 hS13) ?_)
        rintro e w14 ⟨hb, cs, rfl, hN⟩
        obtain ⟨rk, rm, rlo, rhi, rar, rak, rlr, rcr, rlk, rck, rfl⟩ := nin_six hN
        have hS14 : Below w4.heap.size w4 w14 := hS13.trans (hb.mono hS13.size)
        have hlt := blk_lt hbox
        replace hbox := (hb.block _ hlt).trans hbox
        replace hN := hN.mono (P' := fun b => b ≠ bn ∧ b < w14.heap.size) (fun b hb => ⟨by omega, hb.2⟩)
        clear hb
        refine ⟨_, _, rfl, hS14, (by simp only [Act.put, List.setIfInBounds_toArray, List.set_cons_zero, List.set_cons_succ]; rfl), ?_⟩
        repeat first
        | refine goT_p (v := ?_) (b := ?_) rfl (.inl ⟨by rfl, ?_⟩) ?_ ?_
          rotate_left 2
          · intro w'; go_simp; with_reducible rfl
          · simp only [Act.put, pu_, pz_, ps_, i64_w, i32_w]; rfl
        | refine goT_t (v := ?_) (b := ?_) rfl (.inl ⟨by rfl, ?_⟩) ?_ ?_
          rotate_left 2
          · intro w' hS; have hc := Below.cells hS; go_simp; with_reducible rfl
          · simp only [Act.put, pu_, pz_, ps_, i64_w, i32_w]; rfl
        have c0 := lk_cell (i := 0) hbox rfl
        have c1 := lk_cell (i := 1) hbox rfl
        have c2 := lk_cell (i := 2) hbox rfl
        have c3 := lk_cell (i := 3) hbox rfl
        have c4 := lk_cell (i := 4) hbox rfl
        have c5 := lk_cell (i := 5) hbox rfl
        have hf : ∀ o, w14.frozen? ⟨bn, o, none⟩ = false := fun o => by simp [World.frozen?, hbox]
        have hlt := blk_lt hbox
        have hSf := put6_below hS14 hlb 0 (.int .i64 rk) (.int .i64 rm) (.int .i64 rlo) (.int .i64 rhi) (.slice rar rlr rcr) (.slice rak rlk rck)
        refine goT_o (up_skip (w1 := put6 w14 bn 0 (.int .i64 rk) (.int .i64 rm) (.int .i64 rlo) (.int .i64 rhi) (.slice rar rlr rcr) (.slice rak rlk rck)) rfl (by rfl) (by unfold put6; go_simp; first | done | rfl) hSf ?_)
        repeat first
        | refine goT_p (v := ?_) (b := ?_) rfl (.inl ⟨by rfl, ?_⟩) ?_ ?_
          rotate_left 2
          · intro w'; go_simp; with_reducible rfl
          · simp only [Act.put, pu_, pz_, ps_, i64_w, i32_w]; rfl
        | refine goT_t (v := ?_) (b := ?_) rfl (.inl ⟨by rfl, ?_⟩) ?_ ?_
          rotate_left 2
          · intro w' hS; have hc := Below.cells hS; go_simp; with_reducible rfl
          · simp only [Act.put, pu_, pz_, ps_, i64_w, i32_w]; rfl
        refine goT_done ?_
        have HF := Lib.hid (show OfSt W chars fold bx x (put6 w14 bn 0 (.int .i64 rk) (.int .i64 rm) (.int .i64 rlo) (.int .i64 rhi) (.slice rar rlr rcr) (.slice rak rlk rck)) ∧ BoxAt (put6 w14 bn 0 (.int .i64 rk) (.int .i64 rm) (.int .i64 rlo) (.int .i64 rhi) (.slice rar rlr rcr) (.slice rak rlk rck)) bn _ from ⟨HS4.out.below hSf, ⟨rk, rm, rlo, rhi, rar, rak, rlr, rcr, rlk, rck, put6_res hbox _ _ _ _ _ _, (hN.move (fun b hb => put6_other _ _ _ _ _ _ _ _ _ b hb.1)).mono (fun b hb => by rw [put6_size]; exact hb.2)⟩⟩)
        clear c0 c1 c2 c3 c4 c5 hf hSf hbox hN
        go_wp2_with fail
        go_meet
        exact ⟨bn, rfl, rfl, ⟨HF.out⟩⟩
    · clear HR1
      obtain ⟨w15, hw⟩ : ∃ X, X = w5.alloc (.cells #[.int .i64 0, .int .i64 0, .int .i64 0, .int .i64 0, .slice none 0 0, .slice none 0 0] 43) := ⟨_, rfl⟩
      have hS15 : Below w4.heap.size w4 w15 := by rw [hw]; exact hS5.alloc hS5.size _
      have hbox : w15.heap[w5.heap.size]? = some (.cells #[.int .i64 0, .int .i64 0, .int .i64 0, .int .i64 0, .slice none 0 0, .slice none 0 0] 43 (0, 0)) := by rw [hw]; exact heap_alloc_new _ _
      refine (up_val (v := .pointer (some ⟨w5.heap.size, 0, none⟩)) (w1 := w15) rfl (by rfl) (by rw [hw]; go_simp; first | done | rfl) (by simp only [Act.put, List.setIfInBounds_toArray, List.set_cons_zero, List.set_cons_succ]; rfl) hS15 ?_)
      have hlb : w4.heap.size ≤ w5.heap.size := hS5.size
      obtain ⟨bn, hbn⟩ : ∃ X, X = w5.heap.size := ⟨_, rfl⟩
      rw [← hbn] at hbox hlb ⊢
      have HBN := Lib.hid (And.intro hbn hw)
      clear hbn hw
      refine goT_o (up_call rfl (by rfl) Tryz.func27 (by kernel_rfl) rfl (by simp only [List.map_toArray, List.map_cons, List.map_nil]; rfl) (HDl.out w15) ?_)
      rintro e w16 ⟨rfl, hb⟩
      have hS16 : Below w4.heap.size w4 w16 := hS15.trans (hb.mono hS15.size)
      replace hbox := (hb.block _ (blk_lt hbox)).trans hbox
      clear hb
      refine ⟨_, _, rfl, hS16, (by simp only [Act.put, List.setIfInBounds_toArray, List.set_cons_zero, List.set_cons_succ]; rfl), ?_⟩
      repeat first
      | refine goT_p (v := ?_) (b := ?_) rfl (.inl ⟨by rfl, ?_⟩) ?_ ?_
        rotate_left 2
        · intro w'; go_simp; with_reducible rfl
        · simp only [Act.put, pu_, pz_, ps_, i64_w, i32_w]; rfl
      | refine goT_t (v := ?_) (b := ?_) rfl (.inl ⟨by rfl, ?_⟩) ?_ ?_
        rotate_left 2
        · intro w' hS; have hc := Below.cells hS; go_simp; with_reducible rfl
        · simp only [Act.put, pu_, pz_, ps_, i64_w, i32_w]; rfl
      refine goT_o (up_call rfl (by rfl) Tryz.func27 (by kernel_rfl) rfl (by simp only [List.map_toArray, List.map_cons, List.map_nil]; rfl) (HDh.out w16) ?_)
      rintro e w17 ⟨rfl, hb⟩
      have hS17 : Below w4.heap.size w4 w17 := hS16.trans (hb.mono hS16.size)
      replace hbox := (hb.block _ (blk_lt hbox)).trans hbox
      clear hb
      refine ⟨_, _, rfl, hS17, (by simp only [Act.put, List.setIfInBounds_toArray, List.set_cons_zero, List.set_cons_succ]; rfl), ?_⟩
      repeat first
      | refine goT_p (v := ?_) (b := ?_) rfl (.inl ⟨by rfl, ?_⟩) ?_ ?_
        rotate_left 2
        · intro w'; go_simp; with_reducible rfl
        · simp only [Act.put, pu_, pz_, ps_, i64_w, i32_w]; rfl
      | refine goT_t (v := ?_) (b := ?_) rfl (.inl ⟨by rfl, ?_⟩) ?_ ?_
        rotate_left 2
        · intro w' hS; have hc := Below.cells hS; go_simp; with_reducible rfl
        · simp only [Act.put, pu_, pz_, ps_, i64_w, i32_w]; rfl
      refine goT_o (up_call rfl (by rfl) Tryz.func19 (by kernel_rfl) rfl (by simp only [List.map_toArray, List.map_cons, List.map_nil]; rfl) (HPz.out w17 hS17) ?_)
      rintro e w18 ⟨hb, cs, rfl, hN⟩
      obtain ⟨rk, rm, rlo, rhi, rar, rak, rlr, rcr, rlk, rck, rfl⟩ := nin_six hN
      have hS18 : Below w4.heap.size w4 w18 := hS17.trans (hb.mono hS17.size)
      have hlt := blk_lt hbox
      replace hbox := (hb.block _ hlt).trans hbox
      replace hN := hN.mono (P' := fun b => b ≠ bn ∧ b < w18.heap.size) (fun b hb => ⟨by omega, hb.2⟩)
      clear hb
      refine ⟨_, _, rfl, hS18, (by simp only [Act.put, List.setIfInBounds_toArray, List.set_cons_zero, List.set_cons_succ]; rfl), ?_⟩
      repeat first
      | refine goT_p (v := ?_) (b := ?_) rfl (.inl ⟨by rfl, ?_⟩) ?_ ?_
        rotate_left 2
        · intro w'; go_simp; with_reducible rfl
        · simp only [Act.put, pu_, pz_, ps_, i64_w, i32_w]; rfl
      | refine goT_t (v := ?_) (b := ?_) rfl (.inl ⟨by rfl, ?_⟩) ?_ ?_
        rotate_left 2
        · intro w' hS; have hc := Below.cells hS; go_simp; with_reducible rfl
        · simp only [Act.put, pu_, pz_, ps_, i64_w, i32_w]; rfl
      have c0 := lk_cell (i := 0) hbox rfl
      have c1 := lk_cell (i := 1) hbox rfl
      have c2 := lk_cell (i := 2) hbox rfl
      have c3 := lk_cell (i := 3) hbox rfl
      have c4 := lk_cell (i := 4) hbox rfl
      have c5 := lk_cell (i := 5) hbox rfl
      have hf : ∀ o, w18.frozen? ⟨bn, o, none⟩ = false := fun o => by simp [World.frozen?, hbox]
      have hlt := blk_lt hbox
      have hSf := put6_below hS18 hlb 0 (.int .i64 rk) (.int .i64 rm) (.int .i64 rlo) (.int .i64 rhi) (.slice rar rlr rcr) (.slice rak rlk rck)
      refine goT_o (up_skip (w1 := put6 w18 bn 0 (.int .i64 rk) (.int .i64 rm) (.int .i64 rlo) (.int .i64 rhi) (.slice rar rlr rcr) (.slice rak rlk rck)) rfl (by rfl) (by unfold put6; go_simp; first | done | rfl) hSf ?_)
      repeat first
      | refine goT_p (v := ?_) (b := ?_) rfl (.inl ⟨by rfl, ?_⟩) ?_ ?_
        rotate_left 2
        · intro w'; go_simp; with_reducible rfl
        · simp only [Act.put, pu_, pz_, ps_, i64_w, i32_w]; rfl
      | refine goT_t (v := ?_) (b := ?_) rfl (.inl ⟨by rfl, ?_⟩) ?_ ?_
        rotate_left 2
        · intro w' hS; have hc := Below.cells hS; go_simp; with_reducible rfl
        · simp only [Act.put, pu_, pz_, ps_, i64_w, i32_w]; rfl
      refine goT_done ?_
      have HF := Lib.hid (show OfSt W chars fold bx x (put6 w18 bn 0 (.int .i64 rk) (.int .i64 rm) (.int .i64 rlo) (.int .i64 rhi) (.slice rar rlr rcr) (.slice rak rlk rck)) ∧ BoxAt (put6 w18 bn 0 (.int .i64 rk) (.int .i64 rm) (.int .i64 rlo) (.int .i64 rhi) (.slice rar rlr rcr) (.slice rak rlk rck)) bn _ from ⟨HS4.out.below hSf, ⟨rk, rm, rlo, rhi, rar, rak, rlr, rcr, rlk, rck, put6_res hbox _ _ _ _ _ _, (hN.move (fun b hb => put6_other _ _ _ _ _ _ _ _ _ b hb.1)).mono (fun b hb => by rw [put6_size]; exact hb.2)⟩⟩)
      clear c0 c1 c2 c3 c4 c5 hf hSf hbox hN
      go_wp2_with fail
      go_meet
      exact ⟨bn, rfl, rfl, ⟨HF.out⟩⟩
  case rest =>
    obtain ⟨bn, rfl, rfl, HA⟩ := hcut
    clear HS4 HR1
    have HR2' := HR2
    clear HR2
    obtain ⟨xk, xm, xlo, xhi, xar, xak, xlr, xcr, xlk, xck, HTX⟩ := HA.out.1.1
    obtain ⟨x0, x1, x2, x3, x4, x5⟩ := HTX.cells
    have hthing : thing x.k = true := by rw [← HK.out.1]; rfl
    have hbd1 : bounds lo hi = true := by unfold bounds; simp only [Bool.and_eq_true, Bool.or_eq_true, decide_eq_true_eq]; omega
    have HR := Lib.hid (rep_right x lo hi _ wc hthing hbd1 HTX.2 HNN.out)
    have HTH := Lib.hid hthing
    clear HTX hthing hbd1 g0 g1 g2 g3 g4
    go_wp2_with fail
    refine HR.out.mono ?_
    rintro e w5 ⟨cs, rfl, hN, hb⟩
    obtain ⟨mk, mm, mlo, mhi, mar, mak, mlr, mcr, mlk, mck, rfl⟩ := nin_six hN
    have hM6 := tr_new hN
    have hbA := (Below.refl w5.heap.size w5).alloc (Nat.le_refl _) (.cells #[.int .i64 mk, .int .i64 mm, .int .i64 mlo, .int .i64 mhi, .slice mar mlr mcr, .slice mak mlk mck] 43)
    have hA6 := (HA.out.1.below hb).below hbA
    have hB6 := (HA.out.2.below hb).below hbA
    obtain ⟨w6, hw6⟩ : ∃ X, X = w5.alloc (.cells #[.int .i64 mk, .int .i64 mm, .int .i64 mlo, .int .i64 mhi, .slice mar mlr mcr, .slice mak mlk mck] 43) := ⟨_, rfl⟩
    obtain ⟨bm, hbm⟩ : ∃ X, X = w5.heap.size := ⟨_, rfl⟩
    rw [← hw6] at hM6 hA6 hB6
    rw [← hbm] at hM6
    have HW6 := Lib.hid (And.intro hw6 hbm)
    have HM6 := Lib.hid hM6
    have HA6 := Lib.hid hA6
    have HB6 := Lib.hid hB6
    clear hN hM6 hbA hA6 hB6 hb hw6 hbm HR HA x0 x1 x2 x3 x4 x5
    have HP2 := Lib.hid (HL.out w6 HA6.out.2 ((⟨#[92, 40]⟩ : ByteArray) ++ a ++ ⟨#[92, 41, 42]⟩) (by simp only [ByteArray.size_append]; have e1 : (⟨#[92, 40]⟩ : ByteArray).size = 2 := rfl; have e2 : (⟨#[92, 41, 42]⟩ : ByteArray).size = 3 := rfl; omega))
    rw [HR2'.out] at HP2
    have k0 := lk_cell (i := 0) HA6.out.2.2 rfl
    have k1 := lk_cell (i := 1) HA6.out.2.2 rfl
    clear HL
    go_upto_region 9 with fail
    rw [← HW6.out.1, ← HW6.out.2]
    clear HW6
    go_wp2_with fail
    refine HP2.out.mono ?_
    rintro e w7 ⟨hb, cs, rfl, hN⟩
    obtain ⟨sk, sm, slo, shi, sar, sak, slr, scr, slk, sck, rfl⟩ := nin_six hN
    have hS8 := tr_new hN
    have hbA := (Below.refl w7.heap.size w7).alloc (Nat.le_refl _) (.cells #[.int .i64 sk, .int .i64 sm, .int .i64 slo, .int .i64 shi, .slice sar slr scr, .slice sak slk sck] 43)
    have hA8 := (HA6.out.below hb).below hbA
    have hB8 := (HB6.out.below hb).below hbA
    have hM8 := (HM6.out.below hb).below hbA
    obtain ⟨w8, hw8⟩ : ∃ X, X = w7.alloc (.cells #[.int .i64 sk, .int .i64 sm, .int .i64 slo, .int .i64 shi, .slice sar slr scr, .slice sak slk sck] 43) := ⟨_, rfl⟩
    obtain ⟨bs, hbs⟩ : ∃ X, X = w7.heap.size := ⟨_, rfl⟩
    rw [← hw8] at hS8 hA8 hB8 hM8
    rw [← hbs] at hS8
    have HW8 := Lib.hid (And.intro hw8 hbs)
    have HS8 := Lib.hid hS8
    have HA8 := Lib.hid hA8
    have HB8 := Lib.hid hB8
    have HM8 := Lib.hid hM8
    clear hN hS8 hbA hA8 hB8 hM8 hb hw8 hbs HP2 HA6 HB6 HM6 k0 k1
    obtain ⟨xk, xm, xlo, xhi, xar, xak, xlr, xcr, xlk, xck, HTX⟩ := HA8.out.1
    obtain ⟨x0, x1, x2, x3, x4, x5⟩ := HTX.cells
    have HR := Lib.hid (rep_right x 0 (-1) _ w8 HTH.out rfl HTX.2 HNN.out)
    clear HTX
    go_upto_region 10 with fail
    rw [← HW8.out.1, ← HW8.out.2]
    clear HW8
    go_wp2_with fail
    refine HR.out.mono ?_
    rintro e w9 ⟨cs, rfl, hN, hb⟩
    obtain ⟨tk, tm, tlo, thi, tar, tak, tlr, tcr, tlk, tck, rfl⟩ := nin_six hN
    have hT := tr_new hN
    have hbA := (Below.refl w9.heap.size w9).alloc (Nat.le_refl _) (.cells #[.int .i64 tk, .int .i64 tm, .int .i64 tlo, .int .i64 thi, .slice tar tlr tcr, .slice tak tlk tck] 43)
    have hA := (HA8.out.below hb).below hbA
    have hB := (HB8.out.below hb).below hbA
    have hM := (HM8.out.below hb).below hbA
    have hS := (HS8.out.below hb).below hbA
    obtain ⟨wA, hwA⟩ : ∃ X, X = w9.alloc (.cells #[.int .i64 tk, .int .i64 tm, .int .i64 tlo, .int .i64 thi, .slice tar tlr tcr, .slice tak tlk tck] 43) := ⟨_, rfl⟩
    obtain ⟨bt, hbt⟩ : ∃ X, X = w9.heap.size := ⟨_, rfl⟩
    rw [← hwA] at hT hA hB hM hS
    rw [← hbt] at hT
    have HWA := Lib.hid (And.intro hwA hbt)
    have HSS := Lib.hid hS
    have HAA := Lib.hid hA
    have HBB := Lib.hid hB
    have HMM := Lib.hid hM
    have HTT := Lib.hid hT
    clear hN hT hbA hA hB hM hS hb hwA hbt HR HA8 HB8 HM8 HS8 x0 x1 x2 x3 x4 x5
    obtain ⟨nk, nm, nlo, nhi, nar, nak, nlr, ncr, nlk, nck, HTN⟩ := HBB.out
    obtain ⟨n0, n1, n2, n3, n4, n5⟩ := HTN.cells
    obtain ⟨m0, m1, m2, m3, m4, m5⟩ := HMM.out.cells
    have hnn : (NT.mk 9 0 lo hi [] [x]).nodes ≤ 2000 := nodes_big (parse_rep (lo := lo) (hi := hi) (rep_list a lo hi) (by rw [← HZ.out]; exact HPP.out) HK.out.1.symm (by rw [← HK.out.2]; omega) (by rw [grp_size]; omega) (grp_last a) (.inr ⟨rfl, hl0, hl1, hh0, hh1⟩))
    have hn2 : (NT.mk 9 0 0 (-1) [] [x]).nodes ≤ 2000 := nodes_big HR2'.out
    have HSM := Lib.hid (Same_calls wA.heap.size _ _ _ _ wA (Nat.le_refl _) HTN.2 HMM.out.2 (by omega) (by omega))
    rw [same_self _ hnn] at HSM
    have HN2 := Lib.hid hn2
    clear hnn hn2 HTN
    go_upto_region 11 with fail
    rw [← HWA.out.1, ← HWA.out.2]
    clear HWA
    go_wp2_with fail
    refine HSM.out.mono ?_
    rintro e wB ⟨rfl, hb⟩
    have HSB := Lib.hid (HSS.out.below hb)
    have HTB := Lib.hid (HTT.out.below hb)
    have HWB := Lib.hid (HAA.out.below hb).2.1
    clear hb n0 n1 n2 n3 n4 n5 m0 m1 m2 m3 m4 m5 HSS HTT HAA HBB HMM HSM
    obtain ⟨n0, n1, n2, n3, n4, n5⟩ := HSB.out.cells
    obtain ⟨m0, m1, m2, m3, m4, m5⟩ := HTB.out.cells
    have HSM := Lib.hid (Same_calls wB.heap.size _ _ _ _ wB (Nat.le_refl _) HSB.out.2 HTB.out.2 (by have := HN2.out; omega) (by have := HN2.out; omega))
    rw [same_self _ HN2.out] at HSM
    go_wp2_with fail
    refine HSM.out.mono ?_
    rintro e wC ⟨rfl, hb⟩
    have HWC := Lib.hid (HWB.out.trans (hb.mono HWB.out.size))
    clear hb n0 n1 n2 n3 n4 n5 m0 m1 m2 m3 m4 m5 HSM
    go_wp2_with fail
    go_ret
    exact ⟨rfl, HWC.out⟩
end Go.Proofs.YtamhkdlcoghdbaaGreatDoor.PCls
