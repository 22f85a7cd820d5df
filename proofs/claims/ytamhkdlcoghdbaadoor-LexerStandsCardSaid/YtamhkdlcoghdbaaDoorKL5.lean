/- LexerStands, walked. -/
import Derived.Test.YtamhkdlcoghdbaaDoorKMLw
namespace Go.Proofs.YtamhkdlcoghdbaaDoor.PCls
open Go.RowKit Go.Shelf Go.Proofs.YtamhkdlcoghdbaaDoorW.PrintWords Go.Proofs.YtamhkdlcoghdbaaDoorW.PrintLast Go.Proofs.YtamhkdlcoghdbaaDoorW.PrintMore
set_option linter.unusedVariables false
set_option linter.unusedSimpArgs false

theorem Stands.length : ∀ {l : List Tok} {p q : Nat}, Stands p l q → p + l.length ≤ q
 | [], p, q, h => Nat.le_of_eq h
 | t :: l, p, q, h => by
  obtain ⟨_, e, _, h1, _, _, h2⟩ := h
  have := h2.length
  simp only [List.length_cons]
  omega
set_option maxHeartbeats 4000000 in
set_option maxRecDepth 100000 in
theorem stands_calls (s : ByteArray) (chars fold : Bool) (W : World) (m : Int) (hT : Lib.Utf8Tabs 0 1 W) (hm : W.cell? ⟨2, 0, none⟩ = some (.int .i64 m)) (h2 : 2 < W.heap.size) (hs : s.size ≤ 140737488351232) :
  Calls Tryd.prog 5 #[.string s, .agg #[.bool chars, .bool fold]] W fun e w' => e = .returned (.bool true) ∧ Below W.heap.size W w' := by
 have hb0 := (Below.refl W.heap.size W).alloc (Nat.le_refl _) (.cells #[.bool chars, .bool fold] 23)
 have hg0 := heap_alloc_new W (.cells #[.bool chars, .bool fold] 23)
 have HX := Lib.hid (lexex_calls (W.alloc (.cells #[.bool chars, .bool fold] 23)) m ((hb0.cell (p := ⟨2, 0, none⟩) h2).trans hm) (Nat.lt_of_lt_of_le h2 hb0.size) (tabs_below hT hb0))
 have HL := Lib.hid (fun (w : World) (hb : Below W.heap.size W w) => lex_calls w s chars fold m hs ((hb.cell (p := ⟨2, 0, none⟩) h2).trans hm) (Nat.lt_of_lt_of_le h2 hb.size) (tabs_below hT hb))
 have HT := Lib.hid (lex_told s chars fold)
 have HB0 := Lib.hid (And.intro hb0 hg0)
 clear hb0 hg0 hT hm h2
 go_enter Tryd.func5, Tryd.ntmps5
 go_wp2_with fail
 refine HX.out.mono ?_
 rintro e w1 ⟨rfl, hb⟩
 have HB := Lib.hid (HB0.out.1.trans (hb.mono HB0.out.1.size))
 have hgw := (hb.block _ (Array.getElem?_eq_some_iff.1 HB0.out.2).1).trans HB0.out.2
 have k0 := lk_cell (i := 0) hgw rfl
 have k1 := lk_cell (i := 1) hgw rfl
 clear hb hgw HX
 go_wp2_with fail
 refine (HL.out w1 HB.out).mono ?_
 rintro e w2 ⟨hb, hl⟩
 have HB2 := Lib.hid (Below.up HB.out hb)
 clear HL hb
 have ht := HT.out
 cases hr : Lx.lex clC s chars fold with
 | error y =>
  rw [hr] at hl ht
  obtain ⟨g, rfl, _, hgc⟩ := hl
  obtain ⟨c, p⟩ := y
  obtain ⟨hp0, hp1, hc⟩ := ht
  simp only at hp0 hp1 hc
  have HTO := Lib.hid (told_some w2 g c p hgc)
  clear HT hgc hr
  go_wp2_with fail
  refine HTO.out.mono ?_
  rintro e w3 ⟨rfl, hb⟩
  have HB3 := Lib.hid (Below.up HB2.out hb)
  clear hb HTO
  rcases hc with rfl | ⟨hc1, hc2⟩
  ·go_wp2_with fail
   go_ret
   exact ⟨rfl, HB3.out⟩
  ·have e0 : (c != 0) = true := by rw [bne_iff_ne]; omega
   have e20 : (c == 20) = false := by rw [beq_eq_false_iff_ne]; omega
   go_wp2_with fail
   go_ret
   exact ⟨rfl, HB3.out⟩
 | ok out =>
  rw [hr] at hl ht
  obtain ⟨V, rfl, hto⟩ := hl
  obtain ⟨A, cap, rfl, hcap, hf⟩ := hto.form
  have hol := Stands.length ht
  have HTN := Lib.hid (told_nil w2)
  have HF := Lib.hid hf
  have HS := Lib.hid ht
  clear HT hf ht hto hr
  go_wp2_with fail
  refine HTN.out.mono ?_
  rintro e w ⟨rfl, hw⟩
  subst w
  clear HTN
  go_wp2_with fail
  go_loop [11, 12] (fun a b => ∃ (i q : Nat), a = .int .i64 q ∧ b = .int .i64 i ∧ i ≤ out.length ∧ Hid (Stands q (out.drop i) s.size)) (fun _ b => out.length - (intOf b).toNat)
  case atStart => exact ⟨0, 0, rfl, rfl, Nat.zero_le _, HS⟩
  case round =>
   obtain ⟨i, q, rfl, rfl, hi, HQ⟩ := hrel
   by_cases hlt : i < out.length
   ·obtain ⟨t, ht⟩ : ∃ t, out[i]? = some t := ⟨_, List.getElem?_eq_getElem hlt⟩
    obtain ⟨g, rfl, rv, hc⟩ := HF.out i t ht
    have hq := HQ.out
    rw [List.drop_eq_getElem_cons hlt] at hq
    have hte : out[i] = t := by have := List.getElem?_eq_getElem hlt; rw [ht] at this; exact (Option.some.inj this).symm
    rw [hte] at hq
    obtain ⟨ts, e, te, hqe, hk1, hk8, hst⟩ := hq
    have c0 := hc 0 _ rfl
    have c1 := hc 1 _ rfl
    have c2 := hc 2 _ rfl
    rw [Nat.add_zero] at c0
    rw [ts] at c1
    rw [te] at c2
    have HN := Lib.hid hst
    generalize t.kind = kd at c0 hk1 hk8
    have hltz : (i : Int) < (out.length : Int) := by omega
    have hle : ¬ e ≤ q := by omega
    have h1 : ¬ kd < 1 := by omega
    have h8 : ¬ 8 < kd := by omega
    clear ht hte hc ts te hst HQ HF HS
    have hi9 : i + 1 < 900000000000000 := by omega
    go_wp2_with fail
    go_round
    case rel => exact ⟨i + 1, e, rfl, by go_num, by omega, HN⟩
    case measure => simp [intOf]; omega
   ·have hq := HQ.out
    rw [List.drop_eq_nil_of_le (by omega)] at hq
    have hq' : q = s.size := hq
    subst hq'
    have hltz : ¬ (i : Int) < (out.length : Int) := by omega
    clear HQ HF HS hq
    go_wp2_with fail
    go_ret
    exact ⟨rfl, HB2.out⟩
end Go.Proofs.YtamhkdlcoghdbaaDoor.PCls
