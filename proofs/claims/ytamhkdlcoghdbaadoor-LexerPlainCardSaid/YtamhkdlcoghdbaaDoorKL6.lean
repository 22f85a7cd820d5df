/- LexerPlain, walked. -/
import Derived.Test.YtamhkdlcoghdbaaDoorKLg
namespace Go.Proofs.YtamhkdlcoghdbaaDoor.PCls
open Go.RowKit Go.Shelf Go.Proofs.YtamhkdlcoghdbaaDoorW.PrintWords Go.Proofs.YtamhkdlcoghdbaaDoorW.PrintLast Go.Proofs.YtamhkdlcoghdbaaDoorW.PrintMore
set_option linter.unusedVariables false
set_option linter.unusedSimpArgs false

theorem app_l (a b : ByteArray) : (a ++ b).data.toList = a.data.toList ++ b.data.toList := by simp
theorem ext_l (t : ByteArray) (i : Nat) (h : i < t.size) : (t.extract i (i + 1)).data.toList = [t[i]] := by
 have h0 : t.data.toList.length = t.size := by simp
 have h1 : i < t.data.toList.length := by omega
 have e : (t.extract i (i + 1)).data.toList = (t.data.toList.drop i).take 1 := by simp [ByteArray.data_extract]
 rw [e, List.drop_eq_getElem_cons h1]
 rfl
theorem take_l (t : ByteArray) (i : Nat) (h : i < t.size) : t.data.toList.take (i + 1) = t.data.toList.take i ++ [t[i]] := by
 have h0 : t.data.toList.length = t.size := by simp
 have h1 : i < t.data.toList.length := by omega
 rw [List.take_add_one, List.getElem?_eq_getElem h1]
 rfl
theorem spell_snoc (l : List UInt8) (b : UInt8) : spell (l ++ [b]) = spell l ++ sp1 b := by simp [spell]
theorem shown_snoc (l : List UInt8) (b : UInt8) : shownB (l ++ [b]) = shownB l ++ (if b < 128 then [b] else []) := by
 simp only [shownB, List.filter_append, List.filter_cons, List.filter_nil]
 by_cases h : b < 128 <;> simp [h]
theorem spec_nat (b : UInt8) : spec b = (decide (b.toNat = 92) || decide (b.toNat = 91) || decide (b.toNat = 46) || decide (b.toNat = 42) || decide (b.toNat = 94) || decide (b.toNat = 36)) := by
 have h : ∀ k : UInt8, (b == k) = decide (b.toNat = k.toNat) := fun k => by
  rw [Bool.eq_iff_iff, beq_iff_eq, decide_eq_true_eq]
  exact ⟨fun e => by rw [e], fun e => UInt8.toNat_inj.1 e⟩
 simp only [spec, h]
 rfl
theorem ToksOf.length : ∀ {fold : Bool} {l : List UInt8} {ts : List Tok}, ToksOf fold l ts → ts.length = l.length
 | _, [], [], _ => rfl
 | _, b :: l, t :: ts, h => by simp only [List.length_cons]; rw [ToksOf.length h.2]
 | _, [], t :: ts, h => h.elim
 | _, b :: l, [], h => h.elim
theorem ToksOf.get : ∀ {fold : Bool} {l : List UInt8} {ts : List Tok} (i : Nat) (h1 : i < l.length) (t : Tok), ToksOf fold l ts → ts[i]? = some t → TokOf fold l[i] t
 | _, b :: l, u :: ts, 0, h1, t, h, ht => by
  simp at ht
  subst ht
  exact h.1
 | _, b :: l, u :: ts, i + 1, h1, t, h, ht => by
  simp at ht
  exact ToksOf.get i (by simpa using h1) t h.2 ht
 | _, [], _, i, h1, t, h, ht => by simp at h1
 | _, b :: l, [], i, h1, t, h, ht => h.elim
def upOf (fold : Bool) (c : Nat) : Int × Int := if fold = true ∧ 65 ≤ c ∧ c ≤ 90 then ((c : Int), (c : Int) + 32) else if fold = true ∧ 97 ≤ c ∧ c ≤ 122 then ((c : Int) - 32, (c : Int)) else ((c : Int), (c : Int))
theorem fold_is (c : Int) (l : List S64) (hc : Cls.Can l) (hm : ∀ d, Cls.Mem l d ↔ (d = c ∨ (d - 32 = c ∧ 65 ≤ c ∧ c ≤ 90) ∨ (d + 32 = c ∧ 97 ≤ c ∧ c ≤ 122))) : Cls.fold [⟨c, c⟩] = l := by
 have h1 : ∀ d, Cls.Mem [⟨c, c⟩] d ↔ d = c := fun d => by rw [mem_one]; omega
 rw [← cls_of_can (Cls.fold_can [⟨c, c⟩])]
 refine (Cls.cls_unique hc fun d => ?_).symm
 rw [hm, Cls.fold_mem, h1, h1, h1]
 constructor
 ·rintro (h | ⟨h, h2, h3⟩ | ⟨h, h2, h3⟩)
  ·exact .inl h
  ·exact .inr (.inl ⟨h, by omega, by omega⟩)
  ·exact .inr (.inr ⟨h, by omega, by omega⟩)
 ·rintro (h | ⟨h, h2, h3⟩ | ⟨h, h2, h3⟩)
  ·exact .inl h
  ·exact .inr (.inl ⟨h, by omega, by omega⟩)
  ·exact .inr (.inr ⟨h, by omega, by omega⟩)
theorem oneR_eq (fold : Bool) (c : Nat) (h : c < 128) : Lx.oneR clC fold (c : Int) = if (upOf fold c).1 = (upOf fold c).2 then [⟨(upOf fold c).1, (upOf fold c).1⟩] else [⟨(upOf fold c).1, (upOf fold c).1⟩, ⟨(upOf fold c).2, (upOf fold c).2⟩] := by
 cases fold with
 | false => simp [upOf, Lx.oneR]
 | true =>
  show Cls.fold [⟨(c : Int), (c : Int)⟩] = _
  by_cases h1 : 65 ≤ c ∧ c ≤ 90
  ·rw [show upOf true c = ((c : Int), (c : Int) + 32) from if_pos ⟨rfl, h1⟩, if_neg (by simp only; omega)]
   exact fold_is c _ (by simp [Cls.Can] <;> omega) fun d => by simp [Cls.Mem] <;> omega
  ·by_cases h2 : 97 ≤ c ∧ c ≤ 122
   ·rw [show upOf true c = ((c : Int) - 32, (c : Int)) from (if_neg (fun h => h1 h.2)).trans (if_pos ⟨rfl, h2⟩), if_neg (by simp only; omega)]
    exact fold_is c _ (by simp [Cls.Can] <;> omega) fun d => by simp [Cls.Mem] <;> omega
   ·rw [show upOf true c = ((c : Int), (c : Int)) from (if_neg (fun h => h1 h.2)).trans (if_neg (fun h => h2 h.2)), if_pos rfl]
    exact fold_is c _ (by simp [Cls.Can]) fun d => by simp [Cls.Mem] <;> omega
theorem row_cells {W : World} {base : Nat} {v : Value} {r : List S64} {n : Nat} (h : W.ownsRow base 50 2 v n (rowOf r)) (hn : 0 < n) : ∃ g2 cap, v = .slice (some ⟨g2, 0, none⟩) n cap ∧ n ≤ cap ∧ ∀ j u, (rowOf r)[j]? = some u → W.cell? ⟨g2, j, none⟩ = some u := by
 rcases h.2 with ⟨_, hz⟩ | ⟨g2, cap, cur, e2, _, hh, hcc, _, hsz, htk⟩
 ·omega
 ·refine ⟨g2, cap, e2, hcc, fun j u hu => lk_cell hh ?_⟩
  rw [← htk, List.getElem?_take] at hu
  split at hu
  ·simpa using hu
  ·cases hu
set_option maxHeartbeats 4000000 in
set_option maxRecDepth 100000 in
theorem plainlaw_calls (text : ByteArray) (chars fold : Bool) (W : World) (m : Int) (hT : Lib.Utf8Tabs 0 1 W) (hm : W.cell? ⟨2, 0, none⟩ = some (.int .i64 m)) (h2 : 2 < W.heap.size) (hs : text.size ≤ 140737488351232) :
  Calls Tryd.prog 6 #[.string text, .agg #[.bool chars, .bool fold]] W fun e w' => e = .returned (.bool true) ∧ Below W.heap.size W w' := by
 have hb0 := (Below.refl W.heap.size W).alloc (Nat.le_refl _) (.cells #[.bool chars, .bool fold] 23)
 have hg0 := heap_alloc_new W (.cells #[.bool chars, .bool fold] 23)
 have HX := Lib.hid (lexex_calls (W.alloc (.cells #[.bool chars, .bool fold] 23)) m ((hb0.cell (p := ⟨2, 0, none⟩) h2).trans hm) (Nat.lt_of_lt_of_le h2 hb0.size) (tabs_below hT hb0))
 have HL := Lib.hid (fun (w : World) (hb : Below W.heap.size W w) (s : ByteArray) (hs : s.size ≤ 140737488351232) => lex_calls w s chars fold m hs ((hb.cell (p := ⟨2, 0, none⟩) h2).trans hm) (Nat.lt_of_lt_of_le h2 hb.size) (tabs_below hT hb))
 have HB0 := Lib.hid (And.intro hb0 hg0)
 clear hb0 hg0 hT hm h2
 go_enter Tryd.func6, Tryd.ntmps6
 go_wp2_with fail
 refine HX.out.mono ?_
 rintro e w1 ⟨rfl, hb⟩
 have HB := Lib.hid (HB0.out.1.trans (hb.mono HB0.out.1.size))
 have hgw := (hb.block _ (Array.getElem?_eq_some_iff.1 HB0.out.2).1).trans HB0.out.2
 have k0 := lk_cell (i := 0) hgw rfl
 have k1 := lk_cell (i := 1) hgw rfl
 have HGW := Lib.hid hgw
 clear hb hgw HX
 by_cases hbig : 900 < text.size
 ·have hbi : (900 : Int) < (text.size : Int) := by omega
  have hbj : (900 : Int) ≤ (text.size : Int) := by omega
  go_wp2_with fail
  have hts : (text.extract 0 900).size ≤ 900 := by rw [ByteArray.size_extract]; omega
  generalize text.extract 0 900 = t at hts ⊢
  go_loop [6, 7, 8] (fun a6 a7 a8 => ∃ (i : Nat) (S6 S7 : ByteArray), a8 = .int .i64 i ∧ a6 = .string S6 ∧ a7 = .string S7 ∧ i ≤ t.size ∧ Hid (S6.data.toList = spell (t.data.toList.take i)) ∧ Hid (S7.data.toList = shownB (t.data.toList.take i))) (fun _ _ a8 => t.size - (intOf a8).toNat)
  case atStart => exact ⟨0, ⟨#[]⟩, ⟨#[]⟩, rfl, rfl, rfl, Nat.zero_le _, Lib.hid rfl, Lib.hid rfl⟩
  case round =>
   obtain ⟨i, S6, S7, rfl, rfl, rfl, hi, H6, H7⟩ := hrel
   have h6 : S6.size ≤ 1800 := by
    have h := spell_length (t.data.toList.take i)
    rw [← H6.out, List.length_take] at h
    have h0 : S6.data.toList.length = S6.size := by simp
    omega
   have h7 : S7.size ≤ 900 := by
    have h := List.length_filter_le (fun b => decide (b < 128)) (t.data.toList.take i)
    rw [show (t.data.toList.take i).filter (fun b => decide (b < 128)) = shownB (t.data.toList.take i) from rfl, ← H7.out, List.length_take] at h
    have h0 : S7.data.toList.length = S7.size := by simp
    omega
   by_cases hlt : i < t.size
   ·have hi0 : (0 : Int) ≤ (i : Int) := by omega
    have hi1 : (i : Int) < (t.size : Int) := by omega
    have hi2 : (i : Int) ≤ (i : Int) + 1 := by omega
    have hi3 : (i : Int) + 1 ≤ (t.size : Int) := by omega
    have hbl := t[i].toNat_lt
    have HPL := Lib.hid (fun w => plain_calls t[i].toNat hbl w)
    have HEX := Lib.hid (And.intro (ext_l t i hlt) (And.intro (take_l t i hlt) (spec_nat t[i])))
    have h128 : t[i] < 128 ↔ t[i].toNat < 128 := by rw [UInt8.lt_iff_toNat_lt]; rfl
    by_cases hb : t[i].toNat < 128
    ·by_cases hsp : spec t[i] = true
     ·have hr : (decide (t[i].toNat < 128) && decide (t[i].toNat ≠ 92) && decide (t[i].toNat ≠ 91) && decide (t[i].toNat ≠ 46) && decide (t[i].toNat ≠ 42) && decide (t[i].toNat ≠ 94) && decide (t[i].toNat ≠ 36)) = false := by
       have h := HEX.out.2.2
       rw [hsp] at h
       simp only [Bool.true_eq, Bool.or_eq_true, decide_eq_true_eq] at h
       rcases h with ((((h | h) | h) | h) | h) | h <;> simp [h]
      rw [hr] at HPL
      have HS1 := Lib.hid (show sp1 t[i] = [92, t[i]] by unfold sp1; rw [if_pos (h128.2 hb), if_pos hsp])
      have HS2 := Lib.hid (h128.2 hb)
      have hb1 : (t[i].toNat : Int) < 128 := by omega
      clear hr hsp h128
      go_wp2_with fail
      refine (HPL.out _).mono ?_
      rintro e w ⟨rfl, hw⟩
      subst w
      go_wp2_with fail
      go_round
      case rel => exact ⟨i + 1, _, _, by go_num, rfl, rfl, by omega, Lib.hid (by rw [HEX.out.2.1, spell_snoc, HS1.out, app_l, app_l, H6.out, HEX.out.1, List.append_assoc]; rfl), Lib.hid (by rw [HEX.out.2.1, shown_snoc, if_pos HS2.out, app_l, H7.out, HEX.out.1])⟩
      case measure => simp [intOf]; omega
     ·have hr : (decide (t[i].toNat < 128) && decide (t[i].toNat ≠ 92) && decide (t[i].toNat ≠ 91) && decide (t[i].toNat ≠ 46) && decide (t[i].toNat ≠ 42) && decide (t[i].toNat ≠ 94) && decide (t[i].toNat ≠ 36)) = true := by
       have h := HEX.out.2.2
       rw [show spec t[i] = false by simpa using hsp] at h
       simp at h
       simp [hb, h]
      rw [hr] at HPL
      have HS1 := Lib.hid (show sp1 t[i] = [t[i]] by unfold sp1; rw [if_pos (h128.2 hb), if_neg hsp])
      have HS2 := Lib.hid (h128.2 hb)
      have hb1 : (t[i].toNat : Int) < 128 := by omega
      clear hr hsp h128
      go_wp2_with fail
      refine (HPL.out _).mono ?_
      rintro e w ⟨rfl, hw⟩
      subst w
      go_wp2_with fail
      go_round
      case rel => exact ⟨i + 1, _, _, by go_num, rfl, rfl, by omega, Lib.hid (by rw [HEX.out.2.1, spell_snoc, HS1.out, app_l, H6.out, HEX.out.1]), Lib.hid (by rw [HEX.out.2.1, shown_snoc, if_pos HS2.out, app_l, H7.out, HEX.out.1])⟩
      case measure => simp [intOf]; omega
    ·have hr : (decide (t[i].toNat < 128) && decide (t[i].toNat ≠ 92) && decide (t[i].toNat ≠ 91) && decide (t[i].toNat ≠ 46) && decide (t[i].toNat ≠ 42) && decide (t[i].toNat ≠ 94) && decide (t[i].toNat ≠ 36)) = false := by simp [hb]
     rw [hr] at HPL
     have HS1 := Lib.hid (show sp1 t[i] = [] by unfold sp1; rw [if_neg (fun h => hb (h128.1 h))])
     have HS2 := Lib.hid (show ¬ t[i] < 128 from fun h => hb (h128.1 h))
     have hb1 : ¬ (t[i].toNat : Int) < 128 := by omega
     clear hr h128
     go_wp2_with fail
     refine (HPL.out _).mono ?_
     rintro e w ⟨rfl, hw⟩
     subst w
     go_wp2_with fail
     go_round
     case rel => exact ⟨i + 1, _, _, by go_num, rfl, rfl, by omega, Lib.hid (by rw [HEX.out.2.1, spell_snoc, HS1.out, List.append_nil, H6.out]), Lib.hid (by rw [HEX.out.2.1, shown_snoc, if_neg HS2.out, List.append_nil, H7.out])⟩
     case measure => simp [intOf]; omega
   ·obtain rfl : i = t.size := by omega
    have h0 : t.data.toList.length = t.size := by simp
    have e6 : S6.data.toList = spell (shownB t.data.toList) := by rw [H6.out, List.take_of_length_le (by omega), ← spell_shown]
    have e7 : S7.data.toList = shownB t.data.toList := by rw [H7.out, List.take_of_length_le (by omega)]
    have hl7 : (shownB t.data.toList).length = S7.size := by rw [← e7]; simp
    obtain ⟨ts, hlex, hts'⟩ := lex_plain S6 chars fold (shownB t.data.toList) (shown_lt _) e6 (by omega)
    have HLX := Lib.hid (HL.out w1 HB.out S6 (by omega))
    rw [hlex] at HLX
    have hlen : ts.length = S7.size := by rw [hts'.length, hl7]
    have hlt128 := shown_lt t.data.toList
    generalize hl : shownB t.data.toList = l at e7 hts' hl7 hlt128
    have HTS := Lib.hid (And.intro hts' (And.intro e7 (And.intro hl7 hlt128)))
    have hlti : ¬ (t.size : Int) < (t.size : Int) := by omega
    clear hl e6 e7 hl7 hlex hts' H6 H7 hlt128 h0 HL
    go_wp2_with fail
    refine HLX.out.mono ?_
    rintro e w2 ⟨hb, V, rfl, hto⟩
    obtain ⟨A, cap, rfl, hcap, rv, hf⟩ := hto.form2
    have HB2 := Lib.hid (Below.up HB.out hb)
    have hgw2 := (hb.block _ (Array.getElem?_eq_some_iff.1 HGW.out).1).trans HGW.out
    have k2 := lk_cell (i := 0) hgw2 rfl
    have k3 := lk_cell (i := 1) hgw2 rfl
    have HF := Lib.hid hf
    have hne : ((ts.length : Int) != (S7.size : Int)) = false := by rw [bne_eq_false_iff_eq]; omega
    clear HLX hb hto hf hgw2 k0 k1
    go_wp2_with fail
    go_loop [13] (fun a => ∃ i : Nat, a = .int .i64 i ∧ i ≤ ts.length) (fun a => ts.length - (intOf a).toNat)
    case atStart => exact ⟨0, rfl, Nat.zero_le _⟩
    case round =>
     obtain ⟨i, rfl, hi⟩ := hrel
     by_cases hlt : i < ts.length
     ·obtain ⟨t', ht'⟩ : ∃ t', ts[i]? = some t' := ⟨_, List.getElem?_eq_getElem hlt⟩
      obtain ⟨⟨g, rfl, hc⟩, hran⟩ := HF.out i t' ht'
      have hil : i < l.length := by have := HTS.out.2.2.1; omega
      have htk := ToksOf.get i hil t' HTS.out.1 ht'
      have hi7 : i < S7.size := by omega
      have hli : (l[i].toNat : Int) = (S7[i].toNat : Int) := by
       have h := HTS.out.2.1
       have h2 : i < S7.data.toList.length := by simpa using hi7
       have h3 : S7.data.toList[i]? = l[i]? := by rw [h]
       rw [List.getElem?_eq_getElem h2, List.getElem?_eq_getElem hil] at h3
       have h4 := Option.some.inj h3
       rw [← h4]; rfl
      have hc128 : l[i].toNat < 128 := by
       have := HTS.out.2.2.2 l[i] (List.getElem_mem _)
       simpa [UInt8.lt_iff_toNat_lt] using this
      have d0 := hc 0 _ rfl
      have d6 := hc 6 _ rfl
      rw [Nat.add_zero, htk.1] at d0
      have hrow := hran.1
      have hrl : 0 < t'.r.length := by rw [htk.2, oneR_eq fold _ hc128]; split <;> simp
      have hltz : (i : Int) < (ts.length : Int) := by omega
      have hi0 : (0 : Int) ≤ (i : Int) := by omega
      have hi1 : (i : Int) < (S7.size : Int) := by omega
      have hi9 : i + 1 < 9000000 := by omega
      have hS := S7[i].toNat_lt
      clear hc hran ht' HTS HF
      have hcase : (fold = true ∧ 65 ≤ l[i].toNat ∧ l[i].toNat ≤ 90) ∨ (fold = true ∧ 97 ≤ l[i].toNat ∧ l[i].toNat ≤ 122) ∨ (fold = true ∧ ¬ (65 ≤ l[i].toNat ∧ l[i].toNat ≤ 90) ∧ ¬ (97 ≤ l[i].toNat ∧ l[i].toNat ≤ 122)) ∨ fold = false := by
       cases fold
       ·exact .inr (.inr (.inr rfl))
       ·by_cases a1 : 65 ≤ l[i].toNat ∧ l[i].toNat ≤ 90
        ·exact .inl ⟨rfl, a1⟩
        ·by_cases a2 : 97 ≤ l[i].toNat ∧ l[i].toNat ≤ 122
         ·exact .inr (.inl ⟨rfl, a2⟩)
         ·exact .inr (.inr (.inl ⟨rfl, a1, a2⟩))
      rcases hcase with ⟨rfl, a1, a2⟩ | ⟨rfl, a1, a2⟩ | ⟨rfl, a1, a2⟩ | rfl
      ·have hr1 : t'.r = [⟨(l[i].toNat : Int), (l[i].toNat : Int)⟩, ⟨(l[i].toNat : Int) + 32, (l[i].toNat : Int) + 32⟩] := by rw [htk.2, oneR_eq true _ hc128, show upOf true l[i].toNat = ((l[i].toNat : Int), (l[i].toNat : Int) + 32) from by exact if_pos ⟨rfl, a1, a2⟩]; exact if_neg (by simp only; omega)
       rw [hr1] at hrow hrl
       simp only [List.length_cons, List.length_nil, Nat.zero_add, Nat.reduceAdd] at hrow hrl
       obtain ⟨g2, cap2, hv2, hcap2, hcell⟩ := row_cells hrow hrl
       have q0 := hcell 0 _ rfl
       have q1 := hcell 1 _ rfl
       have q2 := hcell 2 _ rfl
       have q3 := hcell 3 _ rfl
       rw [hv2] at d6
       rw [hli] at q0 q1 q2 q3
       have z1 : (65 : Int) ≤ (S7[i].toNat : Int) := by omega
       have z2 : (S7[i].toNat : Int) ≤ 90 := by omega
       clear hcell hrow hrl hr1 htk hv2 hli hc128
       go_wp2_with fail
       go_round
       case rel => exact ⟨i + 1, by go_num, by omega⟩
       case measure => simp [intOf]; omega
      ·have hr1 : t'.r = [⟨(l[i].toNat : Int) - 32, (l[i].toNat : Int) - 32⟩, ⟨(l[i].toNat : Int), (l[i].toNat : Int)⟩] := by rw [htk.2, oneR_eq true _ hc128, show upOf true l[i].toNat = ((l[i].toNat : Int) - 32, (l[i].toNat : Int)) from by exact (if_neg (fun h => by omega)).trans (if_pos ⟨rfl, a1, a2⟩)]; exact if_neg (by simp only; omega)
       rw [hr1] at hrow hrl
       simp only [List.length_cons, List.length_nil, Nat.zero_add, Nat.reduceAdd] at hrow hrl
       obtain ⟨g2, cap2, hv2, hcap2, hcell⟩ := row_cells hrow hrl
       have q0 := hcell 0 _ rfl
       have q1 := hcell 1 _ rfl
       have q2 := hcell 2 _ rfl
       have q3 := hcell 3 _ rfl
       rw [hv2] at d6
       rw [hli] at q0 q1 q2 q3
       have z1 : ¬ (S7[i].toNat : Int) ≤ 90 := by omega
       have z0 : (65 : Int) ≤ (S7[i].toNat : Int) := by omega
       have z2 : (97 : Int) ≤ (S7[i].toNat : Int) := by omega
       have z3 : (S7[i].toNat : Int) ≤ 122 := by omega
       clear hcell hrow hrl hr1 htk hv2 hli hc128
       go_wp2_with fail
       go_round
       case rel => exact ⟨i + 1, by go_num, by omega⟩
       case measure => simp [intOf]; omega
      ·rcases (show l[i].toNat < 65 ∨ (90 < l[i].toNat ∧ l[i].toNat < 97) ∨ 122 < l[i].toNat by omega) with a3 | ⟨a3, a4⟩ | a3
       ·have hr1 : t'.r = [⟨(l[i].toNat : Int), (l[i].toNat : Int)⟩] := by rw [htk.2, oneR_eq true _ hc128, show upOf true l[i].toNat = ((l[i].toNat : Int), (l[i].toNat : Int)) from by exact (if_neg (fun h => by omega)).trans (if_neg (fun h => by omega))]; exact if_pos rfl
        rw [hr1] at hrow hrl
        simp only [List.length_cons, List.length_nil, Nat.zero_add, Nat.reduceAdd] at hrow hrl
        obtain ⟨g2, cap2, hv2, hcap2, hcell⟩ := row_cells hrow hrl
        have q0 := hcell 0 _ rfl
        have q1 := hcell 1 _ rfl


        rw [hv2] at d6
        rw [hli] at q0 q1
        have z1 : ¬ (65 : Int) ≤ (S7[i].toNat : Int) := by omega
        have z2 : ¬ (97 : Int) ≤ (S7[i].toNat : Int) := by omega
        clear hcell hrow hrl hr1 htk hv2 hli hc128
        go_wp2_with fail
        go_round
        case rel => exact ⟨i + 1, by go_num, by omega⟩
        case measure => simp [intOf]; omega
       ·have hr1 : t'.r = [⟨(l[i].toNat : Int), (l[i].toNat : Int)⟩] := by rw [htk.2, oneR_eq true _ hc128, show upOf true l[i].toNat = ((l[i].toNat : Int), (l[i].toNat : Int)) from by exact (if_neg (fun h => by omega)).trans (if_neg (fun h => by omega))]; exact if_pos rfl
        rw [hr1] at hrow hrl
        simp only [List.length_cons, List.length_nil, Nat.zero_add, Nat.reduceAdd] at hrow hrl
        obtain ⟨g2, cap2, hv2, hcap2, hcell⟩ := row_cells hrow hrl
        have q0 := hcell 0 _ rfl
        have q1 := hcell 1 _ rfl


        rw [hv2] at d6
        rw [hli] at q0 q1
        have z1 : (65 : Int) ≤ (S7[i].toNat : Int) := by omega
        have z2 : ¬ (S7[i].toNat : Int) ≤ 90 := by omega
        have z3 : ¬ (97 : Int) ≤ (S7[i].toNat : Int) := by omega
        clear hcell hrow hrl hr1 htk hv2 hli hc128
        go_wp2_with fail
        go_round
        case rel => exact ⟨i + 1, by go_num, by omega⟩
        case measure => simp [intOf]; omega
       ·have hr1 : t'.r = [⟨(l[i].toNat : Int), (l[i].toNat : Int)⟩] := by rw [htk.2, oneR_eq true _ hc128, show upOf true l[i].toNat = ((l[i].toNat : Int), (l[i].toNat : Int)) from by exact (if_neg (fun h => by omega)).trans (if_neg (fun h => by omega))]; exact if_pos rfl
        rw [hr1] at hrow hrl
        simp only [List.length_cons, List.length_nil, Nat.zero_add, Nat.reduceAdd] at hrow hrl
        obtain ⟨g2, cap2, hv2, hcap2, hcell⟩ := row_cells hrow hrl
        have q0 := hcell 0 _ rfl
        have q1 := hcell 1 _ rfl


        rw [hv2] at d6
        rw [hli] at q0 q1
        have z1 : (65 : Int) ≤ (S7[i].toNat : Int) := by omega
        have z2 : ¬ (S7[i].toNat : Int) ≤ 90 := by omega
        have z3 : (97 : Int) ≤ (S7[i].toNat : Int) := by omega
        have z4 : ¬ (S7[i].toNat : Int) ≤ 122 := by omega
        clear hcell hrow hrl hr1 htk hv2 hli hc128
        go_wp2_with fail
        go_round
        case rel => exact ⟨i + 1, by go_num, by omega⟩
        case measure => simp [intOf]; omega
      ·have hr1 : t'.r = [⟨(l[i].toNat : Int), (l[i].toNat : Int)⟩] := by rw [htk.2, oneR_eq false _ hc128, show upOf false l[i].toNat = ((l[i].toNat : Int), (l[i].toNat : Int)) from by exact (if_neg (fun h => by cases h.1)).trans (if_neg (fun h => by cases h.1))]; exact if_pos rfl
       rw [hr1] at hrow hrl
       simp only [List.length_cons, List.length_nil, Nat.zero_add, Nat.reduceAdd] at hrow hrl
       obtain ⟨g2, cap2, hv2, hcap2, hcell⟩ := row_cells hrow hrl
       have q0 := hcell 0 _ rfl
       have q1 := hcell 1 _ rfl


       rw [hv2] at d6
       rw [hli] at q0 q1

       clear hcell hrow hrl hr1 htk hv2 hli hc128
       go_wp2_with fail
       go_round
       case rel => exact ⟨i + 1, by go_num, by omega⟩
       case measure => simp [intOf]; omega
     ·have hltz : ¬ (i : Int) < (ts.length : Int) := by omega
      clear HTS HF
      go_wp2_with fail
      go_ret
      exact ⟨rfl, HB2.out⟩
 ·have hbi : ¬ (900 : Int) < (text.size : Int) := by omega
  have hts : text.size ≤ 900 := by omega
  go_wp2_with fail
  clear hbig hs hbi
  generalize text = t at hts ⊢
  go_loop [6, 7, 8] (fun a6 a7 a8 => ∃ (i : Nat) (S6 S7 : ByteArray), a8 = .int .i64 i ∧ a6 = .string S6 ∧ a7 = .string S7 ∧ i ≤ t.size ∧ Hid (S6.data.toList = spell (t.data.toList.take i)) ∧ Hid (S7.data.toList = shownB (t.data.toList.take i))) (fun _ _ a8 => t.size - (intOf a8).toNat)
  case atStart => exact ⟨0, ⟨#[]⟩, ⟨#[]⟩, rfl, rfl, rfl, Nat.zero_le _, Lib.hid rfl, Lib.hid rfl⟩
  case round =>
   obtain ⟨i, S6, S7, rfl, rfl, rfl, hi, H6, H7⟩ := hrel
   have h6 : S6.size ≤ 1800 := by
    have h := spell_length (t.data.toList.take i)
    rw [← H6.out, List.length_take] at h
    have h0 : S6.data.toList.length = S6.size := by simp
    omega
   have h7 : S7.size ≤ 900 := by
    have h := List.length_filter_le (fun b => decide (b < 128)) (t.data.toList.take i)
    rw [show (t.data.toList.take i).filter (fun b => decide (b < 128)) = shownB (t.data.toList.take i) from rfl, ← H7.out, List.length_take] at h
    have h0 : S7.data.toList.length = S7.size := by simp
    omega
   by_cases hlt : i < t.size
   ·have hi0 : (0 : Int) ≤ (i : Int) := by omega
    have hi1 : (i : Int) < (t.size : Int) := by omega
    have hi2 : (i : Int) ≤ (i : Int) + 1 := by omega
    have hi3 : (i : Int) + 1 ≤ (t.size : Int) := by omega
    have hbl := t[i].toNat_lt
    have HPL := Lib.hid (fun w => plain_calls t[i].toNat hbl w)
    have HEX := Lib.hid (And.intro (ext_l t i hlt) (And.intro (take_l t i hlt) (spec_nat t[i])))
    have h128 : t[i] < 128 ↔ t[i].toNat < 128 := by rw [UInt8.lt_iff_toNat_lt]; rfl
    by_cases hb : t[i].toNat < 128
    ·by_cases hsp : spec t[i] = true
     ·have hr : (decide (t[i].toNat < 128) && decide (t[i].toNat ≠ 92) && decide (t[i].toNat ≠ 91) && decide (t[i].toNat ≠ 46) && decide (t[i].toNat ≠ 42) && decide (t[i].toNat ≠ 94) && decide (t[i].toNat ≠ 36)) = false := by
       have h := HEX.out.2.2
       rw [hsp] at h
       simp only [Bool.true_eq, Bool.or_eq_true, decide_eq_true_eq] at h
       rcases h with ((((h | h) | h) | h) | h) | h <;> simp [h]
      rw [hr] at HPL
      have HS1 := Lib.hid (show sp1 t[i] = [92, t[i]] by unfold sp1; rw [if_pos (h128.2 hb), if_pos hsp])
      have HS2 := Lib.hid (h128.2 hb)
      have hb1 : (t[i].toNat : Int) < 128 := by omega
      clear hr hsp h128
      go_wp2_with fail
      refine (HPL.out _).mono ?_
      rintro e w ⟨rfl, hw⟩
      subst w
      go_wp2_with fail
      go_round
      case rel => exact ⟨i + 1, _, _, by go_num, rfl, rfl, by omega, Lib.hid (by rw [HEX.out.2.1, spell_snoc, HS1.out, app_l, app_l, H6.out, HEX.out.1, List.append_assoc]; rfl), Lib.hid (by rw [HEX.out.2.1, shown_snoc, if_pos HS2.out, app_l, H7.out, HEX.out.1])⟩
      case measure => simp [intOf]; omega
     ·have hr : (decide (t[i].toNat < 128) && decide (t[i].toNat ≠ 92) && decide (t[i].toNat ≠ 91) && decide (t[i].toNat ≠ 46) && decide (t[i].toNat ≠ 42) && decide (t[i].toNat ≠ 94) && decide (t[i].toNat ≠ 36)) = true := by
       have h := HEX.out.2.2
       rw [show spec t[i] = false by simpa using hsp] at h
       simp at h
       simp [hb, h]
      rw [hr] at HPL
      have HS1 := Lib.hid (show sp1 t[i] = [t[i]] by unfold sp1; rw [if_pos (h128.2 hb), if_neg hsp])
      have HS2 := Lib.hid (h128.2 hb)
      have hb1 : (t[i].toNat : Int) < 128 := by omega
      clear hr hsp h128
      go_wp2_with fail
      refine (HPL.out _).mono ?_
      rintro e w ⟨rfl, hw⟩
      subst w
      go_wp2_with fail
      go_round
      case rel => exact ⟨i + 1, _, _, by go_num, rfl, rfl, by omega, Lib.hid (by rw [HEX.out.2.1, spell_snoc, HS1.out, app_l, H6.out, HEX.out.1]), Lib.hid (by rw [HEX.out.2.1, shown_snoc, if_pos HS2.out, app_l, H7.out, HEX.out.1])⟩
      case measure => simp [intOf]; omega
    ·have hr : (decide (t[i].toNat < 128) && decide (t[i].toNat ≠ 92) && decide (t[i].toNat ≠ 91) && decide (t[i].toNat ≠ 46) && decide (t[i].toNat ≠ 42) && decide (t[i].toNat ≠ 94) && decide (t[i].toNat ≠ 36)) = false := by simp [hb]
     rw [hr] at HPL
     have HS1 := Lib.hid (show sp1 t[i] = [] by unfold sp1; rw [if_neg (fun h => hb (h128.1 h))])
     have HS2 := Lib.hid (show ¬ t[i] < 128 from fun h => hb (h128.1 h))
     have hb1 : ¬ (t[i].toNat : Int) < 128 := by omega
     clear hr h128
     go_wp2_with fail
     refine (HPL.out _).mono ?_
     rintro e w ⟨rfl, hw⟩
     subst w
     go_wp2_with fail
     go_round
     case rel => exact ⟨i + 1, _, _, by go_num, rfl, rfl, by omega, Lib.hid (by rw [HEX.out.2.1, spell_snoc, HS1.out, List.append_nil, H6.out]), Lib.hid (by rw [HEX.out.2.1, shown_snoc, if_neg HS2.out, List.append_nil, H7.out])⟩
     case measure => simp [intOf]; omega
   ·obtain rfl : i = t.size := by omega
    have h0 : t.data.toList.length = t.size := by simp
    have e6 : S6.data.toList = spell (shownB t.data.toList) := by rw [H6.out, List.take_of_length_le (by omega), ← spell_shown]
    have e7 : S7.data.toList = shownB t.data.toList := by rw [H7.out, List.take_of_length_le (by omega)]
    have hl7 : (shownB t.data.toList).length = S7.size := by rw [← e7]; simp
    obtain ⟨ts, hlex, hts'⟩ := lex_plain S6 chars fold (shownB t.data.toList) (shown_lt _) e6 (by omega)
    have HLX := Lib.hid (HL.out w1 HB.out S6 (by omega))
    rw [hlex] at HLX
    have hlen : ts.length = S7.size := by rw [hts'.length, hl7]
    have hlt128 := shown_lt t.data.toList
    generalize hl : shownB t.data.toList = l at e7 hts' hl7 hlt128
    have HTS := Lib.hid (And.intro hts' (And.intro e7 (And.intro hl7 hlt128)))
    have hlti : ¬ (t.size : Int) < (t.size : Int) := by omega
    clear hl e6 e7 hl7 hlex hts' H6 H7 hlt128 h0 HL
    go_wp2_with fail
    refine HLX.out.mono ?_
    rintro e w2 ⟨hb, V, rfl, hto⟩
    obtain ⟨A, cap, rfl, hcap, rv, hf⟩ := hto.form2
    have HB2 := Lib.hid (Below.up HB.out hb)
    have hgw2 := (hb.block _ (Array.getElem?_eq_some_iff.1 HGW.out).1).trans HGW.out
    have k2 := lk_cell (i := 0) hgw2 rfl
    have k3 := lk_cell (i := 1) hgw2 rfl
    have HF := Lib.hid hf
    have hne : ((ts.length : Int) != (S7.size : Int)) = false := by rw [bne_eq_false_iff_eq]; omega
    clear HLX hb hto hf hgw2 k0 k1
    go_wp2_with fail
    go_loop [13] (fun a => ∃ i : Nat, a = .int .i64 i ∧ i ≤ ts.length) (fun a => ts.length - (intOf a).toNat)
    case atStart => exact ⟨0, rfl, Nat.zero_le _⟩
    case round =>
     obtain ⟨i, rfl, hi⟩ := hrel
     by_cases hlt : i < ts.length
     ·obtain ⟨t', ht'⟩ : ∃ t', ts[i]? = some t' := ⟨_, List.getElem?_eq_getElem hlt⟩
      obtain ⟨⟨g, rfl, hc⟩, hran⟩ := HF.out i t' ht'
      have hil : i < l.length := by have := HTS.out.2.2.1; omega
      have htk := ToksOf.get i hil t' HTS.out.1 ht'
      have hi7 : i < S7.size := by omega
      have hli : (l[i].toNat : Int) = (S7[i].toNat : Int) := by
       have h := HTS.out.2.1
       have h2 : i < S7.data.toList.length := by simpa using hi7
       have h3 : S7.data.toList[i]? = l[i]? := by rw [h]
       rw [List.getElem?_eq_getElem h2, List.getElem?_eq_getElem hil] at h3
       have h4 := Option.some.inj h3
       rw [← h4]; rfl
      have hc128 : l[i].toNat < 128 := by
       have := HTS.out.2.2.2 l[i] (List.getElem_mem _)
       simpa [UInt8.lt_iff_toNat_lt] using this
      have d0 := hc 0 _ rfl
      have d6 := hc 6 _ rfl
      rw [Nat.add_zero, htk.1] at d0
      have hrow := hran.1
      have hrl : 0 < t'.r.length := by rw [htk.2, oneR_eq fold _ hc128]; split <;> simp
      have hltz : (i : Int) < (ts.length : Int) := by omega
      have hi0 : (0 : Int) ≤ (i : Int) := by omega
      have hi1 : (i : Int) < (S7.size : Int) := by omega
      have hi9 : i + 1 < 9000000 := by omega
      have hS := S7[i].toNat_lt
      clear hc hran ht' HTS HF
      have hcase : (fold = true ∧ 65 ≤ l[i].toNat ∧ l[i].toNat ≤ 90) ∨ (fold = true ∧ 97 ≤ l[i].toNat ∧ l[i].toNat ≤ 122) ∨ (fold = true ∧ ¬ (65 ≤ l[i].toNat ∧ l[i].toNat ≤ 90) ∧ ¬ (97 ≤ l[i].toNat ∧ l[i].toNat ≤ 122)) ∨ fold = false := by
       cases fold
       ·exact .inr (.inr (.inr rfl))
       ·by_cases a1 : 65 ≤ l[i].toNat ∧ l[i].toNat ≤ 90
        ·exact .inl ⟨rfl, a1⟩
        ·by_cases a2 : 97 ≤ l[i].toNat ∧ l[i].toNat ≤ 122
         ·exact .inr (.inl ⟨rfl, a2⟩)
         ·exact .inr (.inr (.inl ⟨rfl, a1, a2⟩))
      rcases hcase with ⟨rfl, a1, a2⟩ | ⟨rfl, a1, a2⟩ | ⟨rfl, a1, a2⟩ | rfl
      ·have hr1 : t'.r = [⟨(l[i].toNat : Int), (l[i].toNat : Int)⟩, ⟨(l[i].toNat : Int) + 32, (l[i].toNat : Int) + 32⟩] := by rw [htk.2, oneR_eq true _ hc128, show upOf true l[i].toNat = ((l[i].toNat : Int), (l[i].toNat : Int) + 32) from by exact if_pos ⟨rfl, a1, a2⟩]; exact if_neg (by simp only; omega)
       rw [hr1] at hrow hrl
       simp only [List.length_cons, List.length_nil, Nat.zero_add, Nat.reduceAdd] at hrow hrl
       obtain ⟨g2, cap2, hv2, hcap2, hcell⟩ := row_cells hrow hrl
       have q0 := hcell 0 _ rfl
       have q1 := hcell 1 _ rfl
       have q2 := hcell 2 _ rfl
       have q3 := hcell 3 _ rfl
       rw [hv2] at d6
       rw [hli] at q0 q1 q2 q3
       have z1 : (65 : Int) ≤ (S7[i].toNat : Int) := by omega
       have z2 : (S7[i].toNat : Int) ≤ 90 := by omega
       clear hcell hrow hrl hr1 htk hv2 hli hc128
       go_wp2_with fail
       go_round
       case rel => exact ⟨i + 1, by go_num, by omega⟩
       case measure => simp [intOf]; omega
      ·have hr1 : t'.r = [⟨(l[i].toNat : Int) - 32, (l[i].toNat : Int) - 32⟩, ⟨(l[i].toNat : Int), (l[i].toNat : Int)⟩] := by rw [htk.2, oneR_eq true _ hc128, show upOf true l[i].toNat = ((l[i].toNat : Int) - 32, (l[i].toNat : Int)) from by exact (if_neg (fun h => by omega)).trans (if_pos ⟨rfl, a1, a2⟩)]; exact if_neg (by simp only; omega)
       rw [hr1] at hrow hrl
       simp only [List.length_cons, List.length_nil, Nat.zero_add, Nat.reduceAdd] at hrow hrl
       obtain ⟨g2, cap2, hv2, hcap2, hcell⟩ := row_cells hrow hrl
       have q0 := hcell 0 _ rfl
       have q1 := hcell 1 _ rfl
       have q2 := hcell 2 _ rfl
       have q3 := hcell 3 _ rfl
       rw [hv2] at d6
       rw [hli] at q0 q1 q2 q3
       have z1 : ¬ (S7[i].toNat : Int) ≤ 90 := by omega
       have z0 : (65 : Int) ≤ (S7[i].toNat : Int) := by omega
       have z2 : (97 : Int) ≤ (S7[i].toNat : Int) := by omega
       have z3 : (S7[i].toNat : Int) ≤ 122 := by omega
       clear hcell hrow hrl hr1 htk hv2 hli hc128
       go_wp2_with fail
       go_round
       case rel => exact ⟨i + 1, by go_num, by omega⟩
       case measure => simp [intOf]; omega
      ·rcases (show l[i].toNat < 65 ∨ (90 < l[i].toNat ∧ l[i].toNat < 97) ∨ 122 < l[i].toNat by omega) with a3 | ⟨a3, a4⟩ | a3
       ·have hr1 : t'.r = [⟨(l[i].toNat : Int), (l[i].toNat : Int)⟩] := by rw [htk.2, oneR_eq true _ hc128, show upOf true l[i].toNat = ((l[i].toNat : Int), (l[i].toNat : Int)) from by exact (if_neg (fun h => by omega)).trans (if_neg (fun h => by omega))]; exact if_pos rfl
        rw [hr1] at hrow hrl
        simp only [List.length_cons, List.length_nil, Nat.zero_add, Nat.reduceAdd] at hrow hrl
        obtain ⟨g2, cap2, hv2, hcap2, hcell⟩ := row_cells hrow hrl
        have q0 := hcell 0 _ rfl
        have q1 := hcell 1 _ rfl


        rw [hv2] at d6
        rw [hli] at q0 q1
        have z1 : ¬ (65 : Int) ≤ (S7[i].toNat : Int) := by omega
        have z2 : ¬ (97 : Int) ≤ (S7[i].toNat : Int) := by omega
        clear hcell hrow hrl hr1 htk hv2 hli hc128
        go_wp2_with fail
        go_round
        case rel => exact ⟨i + 1, by go_num, by omega⟩
        case measure => simp [intOf]; omega
       ·have hr1 : t'.r = [⟨(l[i].toNat : Int), (l[i].toNat : Int)⟩] := by rw [htk.2, oneR_eq true _ hc128, show upOf true l[i].toNat = ((l[i].toNat : Int), (l[i].toNat : Int)) from by exact (if_neg (fun h => by omega)).trans (if_neg (fun h => by omega))]; exact if_pos rfl
        rw [hr1] at hrow hrl
        simp only [List.length_cons, List.length_nil, Nat.zero_add, Nat.reduceAdd] at hrow hrl
        obtain ⟨g2, cap2, hv2, hcap2, hcell⟩ := row_cells hrow hrl
        have q0 := hcell 0 _ rfl
        have q1 := hcell 1 _ rfl


        rw [hv2] at d6
        rw [hli] at q0 q1
        have z1 : (65 : Int) ≤ (S7[i].toNat : Int) := by omega
        have z2 : ¬ (S7[i].toNat : Int) ≤ 90 := by omega
        have z3 : ¬ (97 : Int) ≤ (S7[i].toNat : Int) := by omega
        clear hcell hrow hrl hr1 htk hv2 hli hc128
        go_wp2_with fail
        go_round
        case rel => exact ⟨i + 1, by go_num, by omega⟩
        case measure => simp [intOf]; omega
       ·have hr1 : t'.r = [⟨(l[i].toNat : Int), (l[i].toNat : Int)⟩] := by rw [htk.2, oneR_eq true _ hc128, show upOf true l[i].toNat = ((l[i].toNat : Int), (l[i].toNat : Int)) from by exact (if_neg (fun h => by omega)).trans (if_neg (fun h => by omega))]; exact if_pos rfl
        rw [hr1] at hrow hrl
        simp only [List.length_cons, List.length_nil, Nat.zero_add, Nat.reduceAdd] at hrow hrl
        obtain ⟨g2, cap2, hv2, hcap2, hcell⟩ := row_cells hrow hrl
        have q0 := hcell 0 _ rfl
        have q1 := hcell 1 _ rfl


        rw [hv2] at d6
        rw [hli] at q0 q1
        have z1 : (65 : Int) ≤ (S7[i].toNat : Int) := by omega
        have z2 : ¬ (S7[i].toNat : Int) ≤ 90 := by omega
        have z3 : (97 : Int) ≤ (S7[i].toNat : Int) := by omega
        have z4 : ¬ (S7[i].toNat : Int) ≤ 122 := by omega
        clear hcell hrow hrl hr1 htk hv2 hli hc128
        go_wp2_with fail
        go_round
        case rel => exact ⟨i + 1, by go_num, by omega⟩
        case measure => simp [intOf]; omega
      ·have hr1 : t'.r = [⟨(l[i].toNat : Int), (l[i].toNat : Int)⟩] := by rw [htk.2, oneR_eq false _ hc128, show upOf false l[i].toNat = ((l[i].toNat : Int), (l[i].toNat : Int)) from by exact (if_neg (fun h => by cases h.1)).trans (if_neg (fun h => by cases h.1))]; exact if_pos rfl
       rw [hr1] at hrow hrl
       simp only [List.length_cons, List.length_nil, Nat.zero_add, Nat.reduceAdd] at hrow hrl
       obtain ⟨g2, cap2, hv2, hcap2, hcell⟩ := row_cells hrow hrl
       have q0 := hcell 0 _ rfl
       have q1 := hcell 1 _ rfl


       rw [hv2] at d6
       rw [hli] at q0 q1

       clear hcell hrow hrl hr1 htk hv2 hli hc128
       go_wp2_with fail
       go_round
       case rel => exact ⟨i + 1, by go_num, by omega⟩
       case measure => simp [intOf]; omega
     ·have hltz : ¬ (i : Int) < (ts.length : Int) := by omega
      clear HTS HF
      go_wp2_with fail
      go_ret
      exact ⟨rfl, HB2.out⟩
end Go.Proofs.YtamhkdlcoghdbaaDoor.PCls
