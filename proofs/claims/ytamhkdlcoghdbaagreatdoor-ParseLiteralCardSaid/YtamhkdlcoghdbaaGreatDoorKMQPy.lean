/- Put together (wip/tools/pack.py): QPy, QPz. -/
import Derived.Test.YtamhkdlcoghdbaaGreatDoorKMQPu
import Derived.Test.YtamhkdlcoghdbaaGreatDoorKQLiteral
/- Out of Py (wip/tools/prune2.py): the declarations alone that the texts of the trees name. -/
namespace Go.Proofs.YtamhkdlcoghdbaaGreatDoor.PCls
open Go.RowKit Go.Shelf Go.Proofs.YtamhkdlcoghdbaaGreatDoorW.PrintWords Go.Proofs.YtamhkdlcoghdbaaGreatDoorW.PrintLast Go.Proofs.YtamhkdlcoghdbaaGreatDoorW.PrintMore
set_option linter.unusedVariables false
set_option linter.unusedSimpArgs false
theorem lit_lf (fold : Bool) (b : UInt8) : litNT fold (b.toNat : Int) = lfB fold b := by cases fold <;> rfl
theorem ascii_dec (s : ByteArray) (p : Nat) (h : p < s.size) (hb : Lx.byt s p < 128) : Utf8.decode s p = (Lx.byt s p, 1) := by
 have h4 := byt_at s p h
 rw [Lib.decode_at]
 have hg : (s.get! p).toNat = Lx.byt s p := by rw [h4]; simp [ByteArray.get!, h]; rfl
 unfold Lib.decodeN
 rw [hg, if_pos hb]
theorem runes_ascii (s : ByteArray) : ∀ (k p : Nat) (l : List UInt8), s.size < p + k → p ≤ s.size → s.data.toList.drop p = l → (∀ b, b ∈ l → b < 128) → runesFrom s k p = l.map UInt8.toNat ∧ badFrom s k p = s.size
 | 0, p, l, hk, hp, h, hb => by omega
 | k + 1, p, l, hk, hp, h, hb => by
  have h0 : s.data.toList.length = s.size := by simp
  cases l with
  | nil =>
   have hl := congrArg List.length h
   rw [List.length_drop, h0] at hl
   simp only [List.length_nil] at hl
   unfold runesFrom badFrom
   rw [if_neg (by omega), if_neg (by omega)]
   exact ⟨rfl, rfl⟩
  | cons b l =>
   obtain ⟨h1, h2, h3⟩ := byt_drop h
   have hb1 : b.toNat < 128 := by have := hb b (by simp); simpa [UInt8.lt_iff_toNat_lt] using this
   have hd := ascii_dec s p h1 (by rw [h2]; exact hb1)
   have hok : okAt s p = true := by
    unfold okAt
    rw [hd, h2]
    simp
    omega
   have ih := runes_ascii s k (p + 1) l (by omega) (by omega) h3 (fun c hc => hb c (by simp [hc]))
   unfold runesFrom badFrom
   rw [if_pos h1, if_pos h1, if_pos hok, hd]
   simp only
   rw [ih.1, ih.2, h2]
   exact ⟨rfl, rfl⟩
theorem plitq_calls (s : ByteArray) (chars fold : Bool) (l : List UInt8) (w : World) (hs : s.size ≤ 900) (hT : Lib.Utf8Tabs 0 1 w) (h : s.data.toList = l) (hb : ∀ b ∈ l, chars = true → b < 128) :
  Calls Tryz.prog 29 #[.string s, .agg #[.bool chars, .bool fold]] w fun e w' => ∃ cs : List Value, e = .returned (.tuple #[.agg cs.toArray, .int .i64 0]) ∧ NIn w' (fun b => w.heap.size ≤ b ∧ b < w'.heap.size) (catT (l.map (lfB fold))) cs ∧ Below w.heap.size w w' := by
 cases chars with
 | false =>
  have e : (s.data.toList.map fun c => litNT fold (c.toNat : Int)) = l.map (lfB fold) := by rw [h]; exact List.map_congr_left fun b _ => lit_lf fold b
  have h1 := literal_bytes s fold w (by omega)
  rw [e] at h1
  exact h1
 | true =>
  have hr := runes_ascii s (s.size + 1) 0 l (by omega) (Nat.zero_le _) (by simpa using h) (fun b hb' => hb b hb' rfl)
  have e : ((runesFrom s (s.size + 1) 0).map fun c : Nat => litNT fold (c : Int)) = l.map (lfB fold) := by rw [hr.1, List.map_map]; exact List.map_congr_left fun b _ => lit_lf fold b
  refine (literal_chars s fold w (by omega) hT).mono ?_
  rintro e' w' ⟨hb', hx⟩
  rw [hr.2, if_neg (by omega), e] at hx
  obtain ⟨cs, h1, h2⟩ := hx
  exact ⟨cs, h1, h2, hb'⟩
/-- the bytes that are kept -/
def keptQ (chars : Bool) (l : List UInt8) : List UInt8 := l.filter fun b => !chars || decide (b < 128)
theorem keptQ_ok (chars : Bool) (l : List UInt8) : ∀ b ∈ keptQ chars l, chars = true → b < 128 := fun b hb hc => by
 subst hc
 simpa using (List.mem_filter.1 hb).2
theorem keptQ_snoc (chars : Bool) (l : List UInt8) (b : UInt8) : keptQ chars (l ++ [b]) = keptQ chars l ++ if (!chars || decide (b < 128)) = true then [b] else [] := by
 unfold keptQ
 rw [List.filter_append]
 congr 1
 simp only [List.filter_cons, List.filter_nil]
theorem spellQ_snoc (l : List UInt8) (b : UInt8) : spellQ (l ++ [b]) = spellQ l ++ sq1 b := by simp [spellQ]
theorem qapp_l (a b : ByteArray) : (a ++ b).data.toList = a.data.toList ++ b.data.toList := by simp
theorem qext_l (t : ByteArray) (i : Nat) (h : i < t.size) : (t.extract i (i + 1)).data.toList = [t[i]] := by
 have h0 : t.data.toList.length = t.size := by simp
 have h1 : i < t.data.toList.length := by omega
 have e : (t.extract i (i + 1)).data.toList = (t.data.toList.drop i).take 1 := by simp [ByteArray.data_extract]
 rw [e, List.drop_eq_getElem_cons h1]
 rfl
theorem qtake_l (t : ByteArray) (i : Nat) (h : i < t.size) : t.data.toList.take (i + 1) = t.data.toList.take i ++ [t[i]] := by
 have h0 : t.data.toList.length = t.size := by simp
 have h1 : i < t.data.toList.length := by omega
 rw [List.take_add_one, List.getElem?_eq_getElem h1]
 rfl
end Go.Proofs.YtamhkdlcoghdbaaGreatDoor.PCls
/- Out of Pz (wip/tools/prune2.py): the declarations alone that the texts of the trees name. -/
namespace Go.Proofs.YtamhkdlcoghdbaaGreatDoor.PCls
open Go.RowKit Go.Shelf Go.Proofs.YtamhkdlcoghdbaaGreatDoorW.PrintWords Go.Proofs.YtamhkdlcoghdbaaGreatDoorW.PrintLast Go.Proofs.YtamhkdlcoghdbaaGreatDoorW.PrintMore
set_option linter.unusedVariables false
set_option linter.unusedSimpArgs false
set_option maxHeartbeats 16000000 in
set_option maxRecDepth 100000 in
theorem plit_calls (text : ByteArray) (chars fold : Bool) (W : World) (m : Int) (hT : Lib.Utf8Tabs 0 1 W) (hm : W.cell? ⟨2, 0, none⟩ = some (.int .i64 m)) (h2 : 2 < W.heap.size) (hs : text.size ≤ 140737488351232) :
  Calls Tryz.prog 7 #[.string text, .agg #[.bool chars, .bool fold]] W fun e w' => e = .returned (.bool true) ∧ Below W.heap.size W w' := by
 have hb0 := (Below.refl W.heap.size W).alloc (Nat.le_refl _) (.cells #[.bool chars, .bool fold] 23)
 have hg0 := heap_alloc_new W (.cells #[.bool chars, .bool fold] 23)
 have HX := Lib.hid (pex_calls (W.alloc (.cells #[.bool chars, .bool fold] 23)) m ((hb0.cell (p := ⟨2, 0, none⟩) h2).trans hm) (Nat.lt_of_lt_of_le h2 hb0.size) (tabs_below hT hb0))
 have HL := Lib.hid (fun (w : World) (hb : Below W.heap.size W w) (s : ByteArray) (hs : s.size ≤ 140737488351232) => parse_calls w s chars fold m hs ((hb.cell (p := ⟨2, 0, none⟩) h2).trans hm) (Nat.lt_of_lt_of_le h2 hb.size) (tabs_below hT hb))
 have HQ := Lib.hid (fun (w : World) (hb : Below W.heap.size W w) (s : ByteArray) (l : List UInt8) (hs : s.size ≤ 900) (h : s.data.toList = l) (hl : ∀ b ∈ l, chars = true → b < 128) => plitq_calls s chars fold l w hs (tabs_below hT hb) h hl)
 have HB0 := Lib.hid (And.intro hb0 hg0)
 clear hb0 hg0 hT hm h2
 go_enter Tryz.func7, Tryz.ntmps7
 go_wp2_with fail
 refine HX.out.mono ?_
 rintro e w1 ⟨rfl, hb⟩
 have HB := Lib.hid (HB0.out.1.trans (hb.mono HB0.out.1.size))
 have hgw := (hb.block _ (Array.getElem?_eq_some_iff.1 HB0.out.2).1).trans HB0.out.2
 have k0 := lk_cell (i := 0) hgw rfl
 have k1 := lk_cell (i := 1) hgw rfl
 have HGW := Lib.hid hgw
 clear hb hgw HX HB0
 go_upto_if 17 with fail
 go_cut [0] (fun s0 wx => ∃ t : ByteArray, s0 = .string t ∧ t.size ≤ 900 ∧ wx = w1)
 case first =>
  by_cases hbig : 900 < text.size
  ·have hbi : (900 : Int) < (text.size : Int) := by omega
   have hbj : (900 : Int) ≤ (text.size : Int) := by omega
   go_wp2_with fail
   go_meet
   exact ⟨_, rfl, by rw [ByteArray.size_extract]; omega, rfl⟩
  ·have hbi : ¬ (900 : Int) < (text.size : Int) := by omega
   go_wp2_with fail
   go_meet
   exact ⟨_, rfl, by omega, rfl⟩
 case rest =>
  obtain ⟨t, rfl, hts, hw⟩ := hcut
  subst hw
  clear hs
  go_wp2_with fail
  go_loop [6, 7, 8] (fun a6 a7 a8 => ∃ (i : Nat) (S6 S7 : ByteArray), a8 = .int .i64 i ∧ a6 = .string S6 ∧ a7 = .string S7 ∧ i ≤ t.size ∧ Hid (S6.data.toList = spellQ (keptQ chars (t.data.toList.take i))) ∧ Hid (S7.data.toList = keptQ chars (t.data.toList.take i))) (fun _ _ a8 => t.size - (intOf a8).toNat)
  case atStart => exact ⟨0, ⟨#[]⟩, ⟨#[]⟩, rfl, rfl, rfl, Nat.zero_le _, Lib.hid rfl, Lib.hid rfl⟩
  case round =>
   obtain ⟨i, S6, S7, rfl, rfl, rfl, hi, H6, H7⟩ := hrel
   have hkl : (keptQ chars (t.data.toList.take i)).length ≤ 900 := by
    have h := List.length_filter_le (fun b => !chars || decide (b < 128)) (t.data.toList.take i)
    have h0 : t.data.toList.length = t.size := by simp
    rw [List.length_take] at h
    unfold keptQ
    omega
   have h6 : S6.size ≤ 1800 := by
    have h := (spellQ_length (keptQ chars (t.data.toList.take i))).2
    rw [← H6.out] at h
    have h0 : S6.data.toList.length = S6.size := by simp
    omega
   have h7 : S7.size ≤ 900 := by
    have h0 : S7.data.toList.length = S7.size := by simp
    rw [H7.out] at h0
    omega
   by_cases hlt : i < t.size
   ·have hi0 : (0 : Int) ≤ (i : Int) := by omega
    have hi1 : (i : Int) < (t.size : Int) := by omega
    have hi2 : (i : Int) ≤ (i : Int) + 1 := by omega
    have hi3 : (i : Int) + 1 ≤ (t.size : Int) := by omega
    have hbl := t[i].toNat_lt
    have HEX := Lib.hid (And.intro (qext_l t i hlt) (qtake_l t i hlt))
    have h128 : t[i] < 128 ↔ t[i].toNat < 128 := by rw [UInt8.lt_iff_toNat_lt]; rfl
    by_cases hskip : 127 < t[i].toNat ∧ chars = true
    ·obtain ⟨hs1, rfl⟩ := hskip
     have hb1 : (127 : Int) < (t[i].toNat : Int) := by omega
     have HK := Lib.hid (show keptQ true (t.data.toList.take (i + 1)) = keptQ true (t.data.toList.take i) by
      rw [HEX.out.2, keptQ_snoc, if_neg (by simp only [Bool.not_true, Bool.false_or, decide_eq_true_eq]; rw [h128]; omega), List.append_nil])
     clear h128
     go_wp2_with fail
     go_round
     case rel => exact ⟨i + 1, _, _, by go_num, rfl, rfl, by omega, Lib.hid (by rw [HK.out, H6.out]), Lib.hid (by rw [HK.out, H7.out])⟩
     case measure => simp [intOf]; omega
    ·have HK := Lib.hid (show keptQ chars (t.data.toList.take (i + 1)) = keptQ chars (t.data.toList.take i) ++ [t[i]] by
      rw [HEX.out.2, keptQ_snoc, if_pos (by cases chars with | false => rfl | true => simp only [Bool.not_true, Bool.false_or, decide_eq_true_eq]; rw [h128]; have h9 : ¬ 127 < t[i].toNat := fun h => hskip ⟨h, rfl⟩; omega)])
     by_cases hsp : spec t[i] = true
     ·have HS1 := Lib.hid (show sq1 t[i] = [92, t[i]] by unfold sq1; rw [if_pos hsp])
      have hc : t[i].toNat = 92 ∨ t[i].toNat = 91 ∨ t[i].toNat = 46 ∨ t[i].toNat = 42 ∨ t[i].toNat = 94 ∨ t[i].toNat = 36 := by
       simp only [spec, Bool.or_eq_true, beq_iff_eq] at hsp
       rcases hsp with ((((h | h) | h) | h) | h) | h <;> rw [h] <;> decide
      clear hsp h128
      rcases hc with hv | hv | hv | hv | hv | hv
      all_goals
       go_wp2_with fail
       go_round
       case rel => exact ⟨i + 1, _, _, by go_num, rfl, rfl, by omega, Lib.hid (by rw [HK.out, spellQ_snoc, HS1.out, qapp_l, qapp_l, H6.out, HEX.out.1, List.append_assoc]; rfl), Lib.hid (by rw [HK.out, qapp_l, H7.out, HEX.out.1])⟩
       case measure => simp [intOf]; omega
     ·have HS1 := Lib.hid (show sq1 t[i] = [t[i]] by unfold sq1; rw [if_neg hsp])
      have hc : t[i].toNat ≠ 92 ∧ t[i].toNat ≠ 91 ∧ t[i].toNat ≠ 46 ∧ t[i].toNat ≠ 42 ∧ t[i].toNat ≠ 94 ∧ t[i].toNat ≠ 36 := by
       refine ⟨?_, ?_, ?_, ?_, ?_, ?_⟩ <;> intro e <;> apply hsp <;> rw [show t[i] = UInt8.ofNat t[i].toNat by simp, e] <;> decide
      have n0 : ((t[i].toNat : Int) == 92) = false := by rw [beq_eq_false_iff_ne]; omega
      have n1 : ((t[i].toNat : Int) == 91) = false := by rw [beq_eq_false_iff_ne]; omega
      have n2 : ((t[i].toNat : Int) == 46) = false := by rw [beq_eq_false_iff_ne]; omega
      have n3 : ((t[i].toNat : Int) == 42) = false := by rw [beq_eq_false_iff_ne]; omega
      have n4 : ((t[i].toNat : Int) == 94) = false := by rw [beq_eq_false_iff_ne]; omega
      have n5 : ((t[i].toNat : Int) == 36) = false := by rw [beq_eq_false_iff_ne]; omega
      clear hsp h128 hc
      by_cases hb9 : 127 < t[i].toNat
      ·obtain rfl : chars = false := by cases chars with | false => rfl | true => exact absurd ⟨hb9, rfl⟩ hskip
       have hb1 : (127 : Int) < (t[i].toNat : Int) := by omega
       go_wp2_with fail
       go_round
       case rel => exact ⟨i + 1, _, _, by go_num, rfl, rfl, by omega, Lib.hid (by rw [HK.out, spellQ_snoc, HS1.out, qapp_l, H6.out, HEX.out.1]), Lib.hid (by rw [HK.out, qapp_l, H7.out, HEX.out.1])⟩
       case measure => simp [intOf]; omega
      ·have hb1 : ¬ (127 : Int) < (t[i].toNat : Int) := by omega
       go_wp2_with fail
       go_round
       case rel => exact ⟨i + 1, _, _, by go_num, rfl, rfl, by omega, Lib.hid (by rw [HK.out, spellQ_snoc, HS1.out, qapp_l, H6.out, HEX.out.1]), Lib.hid (by rw [HK.out, qapp_l, H7.out, HEX.out.1])⟩
       case measure => simp [intOf]; omega
   ·obtain rfl : i = t.size := by omega
    have h0 : t.data.toList.length = t.size := by simp
    obtain ⟨l, hl⟩ : ∃ l, l = keptQ chars t.data.toList := ⟨_, rfl⟩
    have e6 : S6.data.toList = spellQ l := by rw [H6.out, List.take_of_length_le (by omega), hl]
    have e7 : S7.data.toList = l := by rw [H7.out, List.take_of_length_le (by omega), hl]
    have hok : ∀ b ∈ l, chars = true → b < 128 := by rw [hl]; exact keptQ_ok _ _
    have hll : l.length ≤ 900 := by
     have h9 : S7.data.toList.length = S7.size := by simp
     rw [e7] at h9
     omega
    have HP := Lib.hid (HL.out wc HB.out S6 (by omega))
    rw [parse_spelt S6 chars fold l hok e6 hll] at HP
    have HQQ := Lib.hid (fun (w : World) (hb : Below W.heap.size W w) => HQ.out w hb S7 l h7 e7 hok)
    have hnn : (catT (l.map (lfB fold))).nodes ≤ 2000 := by
     have h3 := catT_nodes (l.map (lfB fold))
     rw [nodesL_leaves] at h3
     omega
    have HSA := Lib.hid (same_self _ hnn)
    generalize catT (l.map (lfB fold)) = T at *
    have hlti : ¬ (t.size : Int) < (t.size : Int) := by omega
    clear e6 e7 hok hl H6 H7 h0 HL HQ hkl
    go_wp2_with fail
    refine HP.out.mono ?_
    rintro e w2 ⟨hb2, cs, rfl, hN⟩
    obtain ⟨kk, km, klo, khi, kar, kak, klr, kcr, klk, kck, rfl⟩ := nin_six hN
    have hb3 := (Below.refl w2.heap.size w2).alloc (Nat.le_refl _) (.cells #[.int .i64 kk, .int .i64 km, .int .i64 klo, .int .i64 khi, .slice kar klr kcr, .slice kak klk kck] 43)
    have HB3 := Lib.hid (HB.out.trans ((hb2.trans (hb3.mono hb2.size)).mono HB.out.size))
    have hgw2 := ((hb2.trans (hb3.mono hb2.size)).block _ (Array.getElem?_eq_some_iff.1 HGW.out).1).trans HGW.out
    have HL3 := Lib.hid (HQQ.out _ HB3.out)
    have HN3 := Lib.hid (And.intro (hN.move (w' := w2.alloc (.cells #[.int .i64 kk, .int .i64 km, .int .i64 klo, .int .i64 khi, .slice kar klr kcr, .slice kak klk kck] 43)) (fun b hb => hb3.block b hb.2)) (heap_alloc_new w2 (.cells #[.int .i64 kk, .int .i64 km, .int .i64 klo, .int .i64 khi, .slice kar klr kcr, .slice kak klk kck] 43)))
    have q0 := lk_cell (i := 0) hgw2 rfl
    have q1 := lk_cell (i := 1) hgw2 rfl
    clear hb2 hN hb3 hgw2 HP HQQ k0 k1
    go_wp2_with fail
    refine HL3.out.mono ?_
    rintro e w4 ⟨cs, rfl, hN, hb⟩
    obtain ⟨jk, jm, jlo, jhi, jar, jak, jlr, jcr, jlk, jck, rfl⟩ := nin_six hN
    have hb5 := (Below.refl w4.heap.size w4).alloc (Nat.le_refl _) (.cells #[.int .i64 jk, .int .i64 jm, .int .i64 jlo, .int .i64 jhi, .slice jar jlr jcr, .slice jak jlk jck] 43)
    have hbx := hb.trans (hb5.mono hb.size)
    have HB5 := Lib.hid (HB3.out.trans (hbx.mono HB3.out.size))
    have hz2 : w2.heap.size + 1 ≤ w4.heap.size := by have := hb.size; simpa using this
    have hkk := (hbx.block w2.heap.size (by simp)).trans HN3.out.2
    have x0 := lk_cell (i := 0) hkk rfl
    have x1 := lk_cell (i := 1) hkk rfl
    have x2 := lk_cell (i := 2) hkk rfl
    have x3 := lk_cell (i := 3) hkk rfl
    have x4 := lk_cell (i := 4) hkk rfl
    have x5 := lk_cell (i := 5) hkk rfl
    have hl5 : w2.heap.size < (w4.alloc (.cells #[.int .i64 jk, .int .i64 jm, .int .i64 jlo, .int .i64 jhi, .slice jar jlr jcr, .slice jak jlk jck] 43)).heap.size := by simp; omega
    have HSM := Lib.hid (Same_calls _ T T _ _ (w4.alloc (.cells #[.int .i64 jk, .int .i64 jm, .int .i64 jlo, .int .i64 jhi, .slice jar jlr jcr, .slice jak jlk jck] 43)) (Nat.le_refl _) ((HN3.out.1.move (fun b hb' => hbx.block b (by simp; omega))).mono (fun b hb' => by simp; omega)) ((hN.move (fun b hb' => hb5.block b hb'.2)).mono (fun b hb' => by simp; omega)) (by omega) (by omega))
    rw [HSA.out] at HSM
    clear hN hb hb5 hbx hkk q0 q1 HL3
    go_wp2_with fail
    refine HSM.out.mono ?_
    rintro e w6 ⟨rfl, hb⟩
    have HB6 := Lib.hid (HB5.out.trans (hb.mono HB5.out.size))
    clear hb HSM
    go_wp2_with fail
    go_ret
    exact ⟨rfl, HB6.out⟩
end Go.Proofs.YtamhkdlcoghdbaaGreatDoor.PCls
