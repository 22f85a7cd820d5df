/- LexerNumbers, walked. -/
import Derived.Test.YtamhkdlcoghdbaaDoorKLr
namespace Go.Proofs.YtamhkdlcoghdbaaDoor.PCls
open Go.RowKit Go.Shelf Go.Proofs.YtamhkdlcoghdbaaDoorW.PrintWords Go.Proofs.YtamhkdlcoghdbaaDoorW.PrintLast Go.Proofs.YtamhkdlcoghdbaaDoorW.PrintMore
set_option linter.unusedVariables false
set_option linter.unusedSimpArgs false

theorem digB_size (n : Int) : (digB n).size ≤ 21 := by
 unfold digB
 have h1 := dig_size 20 (-(n + 1)).toNat
 have h2 := dig_size 20 n.toNat
 split
 ·rw [ByteArray.size_append]
  have : (⟨#[45]⟩ : ByteArray).size = 1 := rfl
  omega
 ·omega
set_option maxHeartbeats 4000000 in
set_option maxRecDepth 100000 in
theorem numbers_calls (a b c : Int) (W : World) (m : Int) (hT : Lib.Utf8Tabs 0 1 W) (hm : W.cell? ⟨2, 0, none⟩ = some (.int .i64 m)) (h2 : 2 < W.heap.size) (ha : -9223372036854775808 ≤ a ∧ a ≤ 9223372036854775807) (hb : -9223372036854775808 ≤ b ∧ b ≤ 9223372036854775807) :
  Calls Tryd.prog 8 #[.int .i64 a, .int .i64 b, .int .i64 c] W fun e w' => e = .returned (.bool true) ∧ Below W.heap.size W w' := by
 have HX := Lib.hid (lexex_calls W m hm h2 hT)
 have HL := Lib.hid (fun (w : World) (hb : Below W.heap.size W w) (s : ByteArray) (hs : s.size ≤ 140737488351232) => lex_calls w s false false m hs ((hb.cell (p := ⟨2, 0, none⟩) h2).trans hm) (Nat.lt_of_lt_of_le h2 hb.size) (tabs_below hT hb))
 have HA := Lib.hid (fun w => digits_calls a ha.1 ha.2 w)
 have HD := Lib.hid (fun w => digits_calls b hb.1 hb.2 w)
 have HLN := Lib.hid (fun (s : ByteArray) (z : Nat) hs h => lex_numbers s z a b ha hb hs h)
 have sa := digB_size a
 have sb := digB_size b
 clear hT hm h2 ha hb
 go_enter Tryd.func8, Tryd.ntmps8
 go_wp2_with fail
 refine HX.out.mono ?_
 rintro e w1 ⟨rfl, hb⟩
 have HB := Lib.hid hb
 clear hb HX
 go_wp2_with fail
 go_loop [8, 9] (fun a8 a9 => ∃ (i : Nat) (S8 : ByteArray), a9 = .int .i64 i ∧ a8 = .string S8 ∧ i ≤ 50 ∧ Hid (S8.data.toList = List.replicate i 48) ∧ S8.size = i) (fun _ a9 => 50 - (intOf a9).toNat)
 case atStart => exact ⟨0, ⟨#[]⟩, rfl, rfl, by omega, Lib.hid rfl, rfl⟩
 case round =>
  obtain ⟨i, S8, rfl, rfl, hi, H8, hz⟩ := hrel
  by_cases hgo : (i : Int) < c ∧ i < 50
  ·obtain ⟨g1, g2⟩ := hgo
   have g3 : (i : Int) < 50 := by omega
   go_wp2_with fail
   go_round
   case rel => exact ⟨i + 1, _, by go_num, rfl, by omega, Lib.hid (by rw [ByteArray.data_append, Array.toList_append, H8.out, List.replicate_succ']), by rw [ByteArray.size_append, hz]; rfl⟩
   case measure => simp [intOf]; omega
  ·obtain ⟨S, hS⟩ : ∃ S : ByteArray, S = ⟨#[97, 92, 123]⟩ ++ S8 ++ digB a ++ ⟨#[44]⟩ ++ digB b ++ ⟨#[92, 125]⟩ := ⟨_, rfl⟩
   have hSl : S.data.toList = 97 :: 92 :: 123 :: (List.replicate i 48 ++ (digB a).data.toList ++ [44] ++ (digB b).data.toList ++ [92, 125]) := by
    rw [hS]
    simp only [ByteArray.data_append, Array.toList_append, H8.out]
    simp
   have hSz : S.size ≤ 200 := by
    have h := congrArg List.length hSl
    have h0 : S.data.toList.length = S.size := by simp
    have h3 : (digB a).data.toList.length = (digB a).size := by simp
    have h4 : (digB b).data.toList.length = (digB b).size := by simp
    rw [h0] at h
    simp only [List.length_cons, List.length_append, List.length_replicate, List.length_nil, h3, h4] at h
    omega
   have HSS := Lib.hid hS
   have HLX := Lib.hid (HLN.out S i (by omega) hSl)
   clear hS hSl HLN
   have hcase : ¬ (i : Int) < c ∨ ((i : Int) < c ∧ i = 50) := by omega
   clear hgo
   rcases hcase with g1 | ⟨g1, rfl⟩
   all_goals
    go_wp2_with fail
    refine (HA.out _).mono ?_
    rintro e w2 ⟨rfl, hb2⟩
    have HB2 := Lib.hid (Below.up HB.out hb2)
    clear hb2 HA
    go_wp2_with fail
    refine (HD.out _).mono ?_
    rintro e w3 ⟨rfl, hb3⟩
    have HB3 := Lib.hid (Below.up HB2.out hb3)
    clear hb3 HD
    go_wp2_with fail
    rw [← HSS.out]
    refine (HL.out w3 HB3.out S (by omega)).mono ?_
    rintro e w4 ⟨hb4, hl⟩
    have HB4 := Lib.hid (Below.up HB3.out hb4)
    clear hb4 HL
    rw [HLX.out] at hl
    by_cases c1 : a < 0 ∨ b < 0
    ·rw [if_pos c1] at hl
     obtain ⟨g, rfl, _, hgc⟩ := hl
     have HTO := Lib.hid (told_some w4 g 36 1 hgc)
     have c3 : a < 0 ∨ (¬ a < 0 ∧ b < 0) := by omega
     clear hgc HLX c1
     go_wp2_with fail
     refine HTO.out.mono ?_
     rintro e w5 ⟨rfl, hb5⟩
     have HB5 := Lib.hid (Below.up HB4.out hb5)
     clear hb5 HTO
     rcases c3 with c4 | ⟨c4, c5⟩
     all_goals
      go_wp2_with fail
      go_ret
      exact ⟨rfl, HB5.out⟩
    ·rw [if_neg c1] at hl
     have c6 : ¬ a < 0 := by omega
     have c7 : ¬ b < 0 := by omega
     by_cases c2 : 255 < a ∨ 255 < b ∨ b < a
     ·rw [if_pos c2] at hl
      obtain ⟨g, rfl, _, hgc⟩ := hl
      have HTO := Lib.hid (told_some w4 g 37 1 hgc)
      have c3 : 255 < a ∨ (¬ 255 < a ∧ 255 < b) ∨ (¬ 255 < a ∧ ¬ 255 < b ∧ b < a) := by omega
      clear hgc HLX c1 c2
      go_wp2_with fail
      refine HTO.out.mono ?_
      rintro e w5 ⟨rfl, hb5⟩
      have HB5 := Lib.hid (Below.up HB4.out hb5)
      clear hb5 HTO
      rcases c3 with c4 | ⟨c4, c5⟩ | ⟨c4, c5, c8⟩
      all_goals
       go_wp2_with fail
       go_ret
       exact ⟨rfl, HB5.out⟩
     ·rw [if_neg c2] at hl
      obtain ⟨V, rfl, hto⟩ := hl
      obtain ⟨A, cap, rfl, hcap, hf⟩ := hto.form
      obtain ⟨g, rfl, rv, hc⟩ := hf 1 _ rfl
      have d0 := hc 0 _ rfl
      have d2 := hc 2 _ rfl
      have d4 := hc 4 _ rfl
      have d5 := hc 5 _ rfl
      simp only [Nat.one_mul, Nat.add_zero, Nat.reduceAdd, List.length_cons, List.length_nil, Nat.zero_add] at d0 d2 d4 d5 hcap ⊢
      have HTN := Lib.hid (told_nil w4)
      have c3 : ¬ 255 < a := by omega
      have c4 : ¬ 255 < b := by omega
      have c5 : ¬ b < a := by omega
      clear hc hf hto HLX c1 c2
      go_wp2_with fail
      refine HTN.out.mono ?_
      rintro e w ⟨rfl, hw⟩
      subst w
      go_wp2_with fail
      go_ret
      exact ⟨rfl, HB4.out⟩
end Go.Proofs.YtamhkdlcoghdbaaDoor.PCls
