/- LexerAround, walked. -/
import Derived.Test.YtamhkdlcoghdbaaDoorKLh
namespace Go.Proofs.YtamhkdlcoghdbaaDoor.PCls
open Go.RowKit Go.Shelf Go.Proofs.YtamhkdlcoghdbaaDoorW.PrintWords Go.Proofs.YtamhkdlcoghdbaaDoorW.PrintLast Go.Proofs.YtamhkdlcoghdbaaDoorW.PrintMore
set_option linter.unusedVariables false
set_option linter.unusedSimpArgs false

theorem own_form {W : World} {base : Nat} {e : TypeId} {size n : Nat} {v : Value} {xs : List Value} (h : W.ownsRow base e size v n xs) : ∃ A c, v = .slice A n c := by
 rcases h.2 with ⟨rfl, h0⟩ | ⟨g, cap, cur, rfl, _⟩
 ·exact ⟨none, 0, by rw [h0]⟩
 ·exact ⟨_, _, rfl⟩
theorem grp_mk (s : ByteArray) : Grp s ((⟨#[92, 40]⟩ ++ s) ++ ⟨#[92, 41]⟩) := by
 unfold Grp
 simp
theorem stands_at : ∀ {l : List Tok} {p q : Nat}, Stands p l q → p ≤ q ∧ ∀ (i : Nat) (t : Tok), l[i]? = some t → 0 ≤ t.sat ∧ t.sat ≤ q ∧ 0 ≤ t.fin ∧ t.fin ≤ q
 | [], p, q, h => ⟨Nat.le_of_eq h, fun i t ht => by simp at ht⟩
 | u :: l, p, q, h => by
  obtain ⟨a, e, b, c, d, g, hl⟩ := h
  obtain ⟨h1, h2⟩ := stands_at hl
  refine ⟨by omega, fun i t ht => ?_⟩
  cases i with
  | zero => simp at ht; subst ht; omega
  | succ i => exact h2 i t (by simpa using ht)
theorem stands_len : ∀ {l : List Tok} {p q : Nat}, Stands p l q → p + l.length ≤ q
 | [], p, q, h => Nat.le_of_eq h
 | t :: l, p, q, h => by
  obtain ⟨_, e, _, h1, _, _, h2⟩ := h
  have := stands_len h2
  simp only [List.length_cons]
  omega
def ToldR (W w : World) (V0 : Value) (c p : Int) : Except Er (List Tok) → Prop
 | .error x => c = x.1 ∧ p = x.2
 | .ok out => c = 0 ∧ p = 0 ∧ ToksAt w W.heap.size V0 out
/-- an outcome of Lex as a value, and what told tells of it -/
theorem told_any (W w : World) (e : Ending) (r : Except Er (List Tok)) (h : LexAt W w e r) :
  ∃ (V0 V1 : Value) (c p : Int), e = .returned (.tuple #[V0, V1]) ∧ Calls Tryd.prog 18 #[V1] w (fun e w' => e = .returned (.tuple #[.int .i64 c, .int .i64 p, .bool true]) ∧ Below w.heap.size w w') ∧ ToldR W w V0 c p r := by
 obtain ⟨hb, hr⟩ := h
 cases r with
 | error x =>
  obtain ⟨g, e1, _, hgc⟩ := hr
  exact ⟨_, _, x.1, x.2, e1, told_some w g x.1 x.2 hgc, rfl, rfl⟩
 | ok out =>
  obtain ⟨V', e1, ht⟩ := hr
  exact ⟨V', _, 0, 0, e1, (told_nil w).mono (fun e w' h => ⟨h.1, by rw [h.2]; exact Below.refl _ _⟩), rfl, rfl, ht⟩
/-- what LexerAround asks of the two outcomes -/
def Arnd (s : ByteArray) (r r' : Except Er (List Tok)) : Prop := Sh (fun a b => b = openT :: a.map tokSh ++ [closeT s.size]) r r'
set_option maxHeartbeats 8000000 in
set_option maxRecDepth 100000 in
theorem around_calls (text : ByteArray) (chars fold : Bool) (W : World) (m : Int) (hT : Lib.Utf8Tabs 0 1 W) (hm : W.cell? ⟨2, 0, none⟩ = some (.int .i64 m)) (h2 : 2 < W.heap.size) (hs : text.size ≤ 140737488351232) :
  Calls Tryd.prog 7 #[.string text, .agg #[.bool chars, .bool fold]] W fun e w' => e = .returned (.bool true) ∧ Below W.heap.size W w' := by
 have hb0 := (Below.refl W.heap.size W).alloc (Nat.le_refl _) (.cells #[.bool chars, .bool fold] 23)
 have hg0 := heap_alloc_new W (.cells #[.bool chars, .bool fold] 23)
 have HX := Lib.hid (lexex_calls (W.alloc (.cells #[.bool chars, .bool fold] 23)) m ((hb0.cell (p := ⟨2, 0, none⟩) h2).trans hm) (Nat.lt_of_lt_of_le h2 hb0.size) (tabs_below hT hb0))
 have HL := Lib.hid (fun (w : World) (hb : Below W.heap.size W w) (s : ByteArray) (hs : s.size ≤ 140737488351232) => lex_calls w s chars fold m hs ((hb.cell (p := ⟨2, 0, none⟩) h2).trans hm) (Nat.lt_of_lt_of_le h2 hb.size) (tabs_below hT hb))
 have HB0 := Lib.hid (And.intro hb0 hg0)
 obtain ⟨s, hs19, hcs⟩ : ∃ s : ByteArray, s.size ≤ 1900 ∧ ((1900 < text.size ∧ s = text.extract 0 1900) ∨ (¬ 1900 < text.size ∧ s = text)) := by
  by_cases hbig : 1900 < text.size
  ·exact ⟨_, by rw [ByteArray.size_extract]; omega, .inl ⟨hbig, rfl⟩⟩
  ·exact ⟨_, by omega, .inr ⟨hbig, rfl⟩⟩
 have HS19 := Lib.hid hs19
 obtain ⟨z, hz⟩ : ∃ z : ByteArray, z = (⟨#[92, 40]⟩ ++ s) ++ ⟨#[92, 41]⟩ := ⟨_, rfl⟩
 have hgz : Grp s z := by rw [hz]; exact grp_mk s
 have hzs : z.size ≤ 1904 := by rw [hgz.size]; omega
 have HZ := Lib.hid hz
 have HA := Lib.hid (show Arnd s (Lx.lex clC s chars fold) (Lx.lex clC z chars fold) from lex_sh hgz chars fold hs19)
 have HE := Lib.hid (lex_told s chars fold)
 have HL1 := Lib.hid (fun (w : World) (hb : Below W.heap.size W w) => HL.out w hb s (by omega))
 have HL2 := Lib.hid (fun (w : World) (hb : Below W.heap.size W w) => HL.out w hb z (by omega))
 clear hb0 hg0 hT hm h2 hz hgz hzs HL hs19
 go_enter Tryd.func7, Tryd.ntmps7
 go_wp2_with fail
 refine HX.out.mono ?_
 rintro e w1 ⟨rfl, hb⟩
 have HB := Lib.hid (HB0.out.1.trans (hb.mono HB0.out.1.size))
 have hgw := (hb.block _ (Array.getElem?_eq_some_iff.1 HB0.out.2).1).trans HB0.out.2
 have hlw := (Array.getElem?_eq_some_iff.1 hgw).1
 have k0 := lk_cell (i := 0) hgw rfl
 have k1 := lk_cell (i := 1) hgw rfl
 have HGW := Lib.hid (And.intro hgw hlw)
 clear hb hgw hlw HX
 rcases hcs with ⟨hbig, hss⟩ | ⟨hbig, hss⟩
 ·have hbi : (1900 : Int) < (text.size : Int) := by omega
  have hbj : (1900 : Int) ≤ (text.size : Int) := by omega
  have HSS := Lib.hid hss
  clear hss hbig
  go_wp2_with fail
  rw [← HSS.out]
  clear HSS hbi hbj
  refine (HL1.out w1 HB.out).mono ?_
  intro e w2 hl
  have HB2 := Lib.hid (Below.up HB.out hl.1)
  have hg2 := (hl.1.block _ HGW.out.2).trans HGW.out.1
  obtain ⟨V0, V1, c, p, rfl, htd, hin⟩ := told_any w1 w2 e _ hl
  have HTD := Lib.hid htd
  have HG2 := Lib.hid hg2
  clear HL1 hl htd hg2 k0 k1
  go_wp2_with fail
  refine HTD.out.mono ?_
  rintro e w3 ⟨rfl, hb3⟩
  have HB3 := Lib.hid (Below.up HB2.out hb3)
  have hg3 := (hb3.block _ (Array.getElem?_eq_some_iff.1 HG2.out).1).trans HG2.out
  have k0 := lk_cell (i := 0) hg3 rfl
  have k1 := lk_cell (i := 1) hg3 rfl
  have HW23 := Lib.hid hb3
  clear HTD hb3 hg3
  have hs19 := HS19.out
  go_wp2_with fail
  rw [← HZ.out]
  clear hs19
  refine (HL2.out w3 HB3.out).mono ?_
  intro e w4 hl4
  have HB4 := Lib.hid (Below.up HB3.out hl4.1)
  have HW34 := Lib.hid hl4.1
  obtain ⟨U0, U1, f, q, rfl, htd, hin4⟩ := told_any w3 w4 e _ hl4
  have HTD := Lib.hid htd
  clear HL2 hl4 htd k0 k1
  go_wp2_with fail
  refine HTD.out.mono ?_
  rintro e w5 ⟨rfl, hb5⟩
  have HB5 := Lib.hid (Below.up HB4.out hb5)
  have HW45 := Lib.hid hb5
  clear HTD hb5
  have ha := HA.out
  have he := HE.out
  unfold Arnd at ha
  cases hr : Lx.lex clC s chars fold with
  | error y =>
   rw [hr] at ha hin he
   obtain ⟨c', p'⟩ := y
   have e1 : c = c' := hin.1
   have e2 : p = p' := hin.2
   subst e1 e2
   obtain ⟨hp0, hp1, hcc⟩ := he
   simp only at hp0 hp1 hcc
   clear hin
   have hsz := HS19.out
   clear HA HE hr
   by_cases hx : c = 31 ∨ c = 33 ∨ c = 36
   ·have hx2 : c = 31 ∨ (¬ c = 31 ∧ c = 33) ∨ (¬ c = 31 ∧ ¬ c = 33 ∧ c = 36) := by omega
    clear ha hin4 hx hcc
    rcases hx2 with c1 | ⟨c1, c2⟩ | ⟨c1, c2, c3⟩
    all_goals
     go_wp2_with fail
     go_ret
     exact ⟨rfl, HB5.out⟩
   ·have hb : Lx.lex clC z chars fold = .error (c, p + 2) := by
     rcases ha with h | h | h | h
     ·exact absurd (.inl h) hx
     ·exact absurd (.inr (.inl h)) hx
     ·exact absurd (.inr (.inr h)) hx
     ·exact h
    rw [hb] at hin4
    have e3 : c = f := Eq.symm hin4.1
    have e4 : q = p + 2 := hin4.2
    subst e3 e4
    clear hin4
    have c1 : ¬ c = 31 := fun h => hx (.inl h)
    have c2 : ¬ c = 33 := fun h => hx (.inr (.inl h))
    have c3 : ¬ c = 36 := fun h => hx (.inr (.inr h))
    have c0 : ¬ c = 0 := by omega
    have p9 : p ≤ 1900 := by omega
    clear ha hb hx hcc hsz hp1
    go_wp2_with fail
    all_goals
     go_ret
     exact ⟨rfl, HB5.out⟩
  | ok out =>
   rw [hr] at ha hin
   obtain ⟨out2, hb, hout⟩ := ha
   rw [hb, hout] at hin4
   obtain ⟨rfl, rfl, hto⟩ := hin
   obtain ⟨rfl, rfl, hto2⟩ := hin4
   have hto := hto.move (B := w5) (fun k _ hk => (HW45.out.block k (by have := HW23.out.size; have := HW34.out.size; omega)).trans ((HW34.out.block k (by have := HW23.out.size; omega)).trans (HW23.out.block k hk)))
   have hto2 := hto2.move (B := w5) (fun k _ hk => HW45.out.block k hk)
   have hlen : (openT :: out.map tokSh ++ [closeT s.size]).length = out.length + 2 := by simp
   obtain ⟨A1, cp1, rfl, hcp1, rv1, hf1⟩ := hto.form2
   obtain ⟨A2, cp2, rfl, hcp2, rv2, hf2⟩ := hto2.form2
   rw [hlen] at hcp2 ⊢
   have hol : out.length ≤ 1900 := by
    have := stands_len (by have h := HE.out; rw [hr] at h; exact h)
    have := HS19.out
    omega
   obtain ⟨⟨g2, rfl, hf20⟩, _⟩ := hf2 0 openT rfl
   have d0 := hf20 0 _ rfl
   have hlast : (openT :: out.map tokSh ++ [closeT s.size])[out.length + 1]? = some (closeT s.size) := by
    rw [List.getElem?_append_right (by simp)]
    simp
   obtain ⟨⟨g2', e2', hf2l⟩, _⟩ := hf2 (out.length + 1) _ hlast
   cases e2'
   have dl := hf2l 0 _ rfl
   have hat : ∀ i t, out[i]? = some t → (openT :: out.map tokSh ++ [closeT s.size])[i + 1]? = some (tokSh t) := fun i t ht => by
    have hi := (List.getElem?_eq_some_iff.1 ht).1
    rw [List.getElem?_append_left (by simp; omega), List.getElem?_cons_succ, List.getElem?_map, ht]
    rfl
   have HF := Lib.hid (And.intro hf1 (fun i t ht => hf2 (i + 1) (tokSh t) (hat i t ht)))
   simp only [Nat.zero_mul, Nat.zero_add, Nat.add_zero] at d0 dl
   have dlv : (closeT s.size).kind = 4 := rfl
   have d0v : (openT).kind = 3 := rfl
   rw [dlv] at dl
   rw [d0v] at d0
   have HST := Lib.hid (show Stands 0 out s.size by have h := HE.out; rw [hr] at h; exact h)
   clear HA HE hr hb hout hto hto2 hlen hf1 hf2 hf20 hf2l hlast hat dlv d0v
   go_wp2_with fail
   go_loopg [16] (out.length) (fun gg a16 wr => ∃ (i : Nat), i ≤ out.length ∧ a16 = .int .i64 i ∧ Aside0 (Below w5.heap.size w5 wr) ∧ out.length - i ≤ gg)
   case atStart => exact ⟨0, Nat.zero_le _, rfl, ⟨Below.refl _ _⟩, by omega⟩
   case round =>
    obtain ⟨i, hi, rfl, HW, hgg⟩ := hrel
    by_cases hlt : i < out.length
    ·obtain ⟨t, ht⟩ : ∃ t, out[i]? = some t := ⟨_, List.getElem?_eq_getElem hlt⟩
     obtain ⟨⟨g1, rfl, hc⟩, hr1⟩ := HF.out.1 i t ht
     obtain ⟨⟨g3, e3, hd⟩, hr2⟩ := HF.out.2 i t ht
     cases e3
     obtain ⟨B1, b1, e1⟩ := own_form hr1.1
     obtain ⟨B2, b2, e2⟩ := own_form hr2.1
     obtain ⟨s1, s2, s3, s4⟩ := (stands_at HST.out).2 i t ht
     have hs19 := HS19.out
     have hcc : ∀ k u, (tokV t (rv1 i))[k]? = some u → wr.cell? ⟨g1, i * 7 + k, none⟩ = some u := fun k u hu => (HW.out.cell (p := ⟨g1, i * 7 + k, none⟩) (block_lt_of_cell (hc k u hu))).trans (hc k u hu)
     have hdd : ∀ k u, (tokV (tokSh t) (rv2 (i + 1)))[k]? = some u → wr.cell? ⟨g2, (i + 1) * 7 + k, none⟩ = some u := fun k u hu => (HW.out.cell (p := ⟨g2, (i + 1) * 7 + k, none⟩) (block_lt_of_cell (hd k u hu))).trans (hd k u hu)
     rw [e1] at hcc
     rw [e2] at hdd
     have hl1 : (tokSh t).r = t.r := rfl
     rw [hl1] at hdd
     have hg1 : g1 < wr.heap.size := block_lt_of_cell (hcc 0 _ rfl)
     have hg2 : g2 < wr.heap.size := block_lt_of_cell (hdd 0 _ rfl)
     have c0 := hcc 0 _ rfl
     have c1 := hcc 1 _ rfl
     have c2 := hcc 2 _ rfl
     have c3 := hcc 3 _ rfl
     have c4 := hcc 4 _ rfl
     have c5 := hcc 5 _ rfl
     have c6 := hcc 6 _ rfl
     have f0 := hdd 0 _ rfl
     have f1 := hdd 1 _ rfl
     have f2 := hdd 2 _ rfl
     have f3 := hdd 3 _ rfl
     have f4 := hdd 4 _ rfl
     have f5 := hdd 5 _ rfl
     have f6 := hdd 6 _ rfl
     rw [Nat.add_zero] at c0 f0
     simp only [tokSh] at f0 f1 f2 f3 f4 f5 f6
     have x1 : t.sat ≤ 1900 := by omega
     have x2 : t.fin ≤ 1900 := by omega
     have hi9 : i + 1 < 900000000000000 := by omega
     have hlz : (i : Int) < (out.length : Int) := by omega
     have hly : (i : Int) + 1 < (out.length : Int) + 2 := by omega
     generalize t.kind = kd at *
     generalize t.sat = sa at *
     generalize t.fin = fi at *
     generalize t.n = nn at *
     generalize t.lo = lo at *
     generalize t.hi = hh at *
     generalize t.r.length = rl at *
     clear hcc hdd e1 e2 hl1 hr1 hr2 hc hd ht s2 s4 hs19 HF HST
     go_wp2_with fail
     go_roundg (out.length - (i + 1))
     case measure => omega
     case rel => exact ⟨i + 1, hlt, by go_num, ⟨(HW.out.alloc HW.out.size _).alloc (by have := HW.out.size; simp; omega) _⟩, Nat.le_refl _⟩
    ·have hlz : ¬ (i : Int) < (out.length : Int) := by omega
     clear HF HST
     go_wp2_with fail
     go_ret
     exact ⟨rfl, Below.up HB5.out HW.out⟩
 ·have hbi : ¬ (1900 : Int) < (text.size : Int) := by omega
  subst hss
  clear hbig
  go_wp2_with fail
  clear hbi
  refine (HL1.out w1 HB.out).mono ?_
  intro e w2 hl
  have HB2 := Lib.hid (Below.up HB.out hl.1)
  have hg2 := (hl.1.block _ HGW.out.2).trans HGW.out.1
  obtain ⟨V0, V1, c, p, rfl, htd, hin⟩ := told_any w1 w2 e _ hl
  have HTD := Lib.hid htd
  have HG2 := Lib.hid hg2
  clear HL1 hl htd hg2 k0 k1
  go_wp2_with fail
  refine HTD.out.mono ?_
  rintro e w3 ⟨rfl, hb3⟩
  have HB3 := Lib.hid (Below.up HB2.out hb3)
  have hg3 := (hb3.block _ (Array.getElem?_eq_some_iff.1 HG2.out).1).trans HG2.out
  have k0 := lk_cell (i := 0) hg3 rfl
  have k1 := lk_cell (i := 1) hg3 rfl
  have HW23 := Lib.hid hb3
  clear HTD hb3 hg3
  have hs19 := HS19.out
  go_wp2_with fail
  rw [← HZ.out]
  clear hs19
  refine (HL2.out w3 HB3.out).mono ?_
  intro e w4 hl4
  have HB4 := Lib.hid (Below.up HB3.out hl4.1)
  have HW34 := Lib.hid hl4.1
  obtain ⟨U0, U1, f, q, rfl, htd, hin4⟩ := told_any w3 w4 e _ hl4
  have HTD := Lib.hid htd
  clear HL2 hl4 htd k0 k1
  go_wp2_with fail
  refine HTD.out.mono ?_
  rintro e w5 ⟨rfl, hb5⟩
  have HB5 := Lib.hid (Below.up HB4.out hb5)
  have HW45 := Lib.hid hb5
  clear HTD hb5
  have ha := HA.out
  have he := HE.out
  unfold Arnd at ha
  cases hr : Lx.lex clC s chars fold with
  | error y =>
   rw [hr] at ha hin he
   obtain ⟨c', p'⟩ := y
   have e1 : c = c' := hin.1
   have e2 : p = p' := hin.2
   subst e1 e2
   obtain ⟨hp0, hp1, hcc⟩ := he
   simp only at hp0 hp1 hcc
   clear hin
   have hsz := HS19.out
   clear HA HE hr
   by_cases hx : c = 31 ∨ c = 33 ∨ c = 36
   ·have hx2 : c = 31 ∨ (¬ c = 31 ∧ c = 33) ∨ (¬ c = 31 ∧ ¬ c = 33 ∧ c = 36) := by omega
    clear ha hin4 hx hcc
    rcases hx2 with c1 | ⟨c1, c2⟩ | ⟨c1, c2, c3⟩
    all_goals
     go_wp2_with fail
     go_ret
     exact ⟨rfl, HB5.out⟩
   ·have hb : Lx.lex clC z chars fold = .error (c, p + 2) := by
     rcases ha with h | h | h | h
     ·exact absurd (.inl h) hx
     ·exact absurd (.inr (.inl h)) hx
     ·exact absurd (.inr (.inr h)) hx
     ·exact h
    rw [hb] at hin4
    have e3 : c = f := Eq.symm hin4.1
    have e4 : q = p + 2 := hin4.2
    subst e3 e4
    clear hin4
    have c1 : ¬ c = 31 := fun h => hx (.inl h)
    have c2 : ¬ c = 33 := fun h => hx (.inr (.inl h))
    have c3 : ¬ c = 36 := fun h => hx (.inr (.inr h))
    have c0 : ¬ c = 0 := by omega
    have p9 : p ≤ 1900 := by omega
    clear ha hb hx hcc hsz hp1
    go_wp2_with fail
    all_goals
     go_ret
     exact ⟨rfl, HB5.out⟩
  | ok out =>
   rw [hr] at ha hin
   obtain ⟨out2, hb, hout⟩ := ha
   rw [hb, hout] at hin4
   obtain ⟨rfl, rfl, hto⟩ := hin
   obtain ⟨rfl, rfl, hto2⟩ := hin4
   have hto := hto.move (B := w5) (fun k _ hk => (HW45.out.block k (by have := HW23.out.size; have := HW34.out.size; omega)).trans ((HW34.out.block k (by have := HW23.out.size; omega)).trans (HW23.out.block k hk)))
   have hto2 := hto2.move (B := w5) (fun k _ hk => HW45.out.block k hk)
   have hlen : (openT :: out.map tokSh ++ [closeT s.size]).length = out.length + 2 := by simp
   obtain ⟨A1, cp1, rfl, hcp1, rv1, hf1⟩ := hto.form2
   obtain ⟨A2, cp2, rfl, hcp2, rv2, hf2⟩ := hto2.form2
   rw [hlen] at hcp2 ⊢
   have hol : out.length ≤ 1900 := by
    have := stands_len (by have h := HE.out; rw [hr] at h; exact h)
    have := HS19.out
    omega
   obtain ⟨⟨g2, rfl, hf20⟩, _⟩ := hf2 0 openT rfl
   have d0 := hf20 0 _ rfl
   have hlast : (openT :: out.map tokSh ++ [closeT s.size])[out.length + 1]? = some (closeT s.size) := by
    rw [List.getElem?_append_right (by simp)]
    simp
   obtain ⟨⟨g2', e2', hf2l⟩, _⟩ := hf2 (out.length + 1) _ hlast
   cases e2'
   have dl := hf2l 0 _ rfl
   have hat : ∀ i t, out[i]? = some t → (openT :: out.map tokSh ++ [closeT s.size])[i + 1]? = some (tokSh t) := fun i t ht => by
    have hi := (List.getElem?_eq_some_iff.1 ht).1
    rw [List.getElem?_append_left (by simp; omega), List.getElem?_cons_succ, List.getElem?_map, ht]
    rfl
   have HF := Lib.hid (And.intro hf1 (fun i t ht => hf2 (i + 1) (tokSh t) (hat i t ht)))
   simp only [Nat.zero_mul, Nat.zero_add, Nat.add_zero] at d0 dl
   have dlv : (closeT s.size).kind = 4 := rfl
   have d0v : (openT).kind = 3 := rfl
   rw [dlv] at dl
   rw [d0v] at d0
   have HST := Lib.hid (show Stands 0 out s.size by have h := HE.out; rw [hr] at h; exact h)
   clear HA HE hr hb hout hto hto2 hlen hf1 hf2 hf20 hf2l hlast hat dlv d0v
   go_wp2_with fail
   go_loopg [16] (out.length) (fun gg a16 wr => ∃ (i : Nat), i ≤ out.length ∧ a16 = .int .i64 i ∧ Aside0 (Below w5.heap.size w5 wr) ∧ out.length - i ≤ gg)
   case atStart => exact ⟨0, Nat.zero_le _, rfl, ⟨Below.refl _ _⟩, by omega⟩
   case round =>
    obtain ⟨i, hi, rfl, HW, hgg⟩ := hrel
    by_cases hlt : i < out.length
    ·obtain ⟨t, ht⟩ : ∃ t, out[i]? = some t := ⟨_, List.getElem?_eq_getElem hlt⟩
     obtain ⟨⟨g1, rfl, hc⟩, hr1⟩ := HF.out.1 i t ht
     obtain ⟨⟨g3, e3, hd⟩, hr2⟩ := HF.out.2 i t ht
     cases e3
     obtain ⟨B1, b1, e1⟩ := own_form hr1.1
     obtain ⟨B2, b2, e2⟩ := own_form hr2.1
     obtain ⟨s1, s2, s3, s4⟩ := (stands_at HST.out).2 i t ht
     have hs19 := HS19.out
     have hcc : ∀ k u, (tokV t (rv1 i))[k]? = some u → wr.cell? ⟨g1, i * 7 + k, none⟩ = some u := fun k u hu => (HW.out.cell (p := ⟨g1, i * 7 + k, none⟩) (block_lt_of_cell (hc k u hu))).trans (hc k u hu)
     have hdd : ∀ k u, (tokV (tokSh t) (rv2 (i + 1)))[k]? = some u → wr.cell? ⟨g2, (i + 1) * 7 + k, none⟩ = some u := fun k u hu => (HW.out.cell (p := ⟨g2, (i + 1) * 7 + k, none⟩) (block_lt_of_cell (hd k u hu))).trans (hd k u hu)
     rw [e1] at hcc
     rw [e2] at hdd
     have hl1 : (tokSh t).r = t.r := rfl
     rw [hl1] at hdd
     have hg1 : g1 < wr.heap.size := block_lt_of_cell (hcc 0 _ rfl)
     have hg2 : g2 < wr.heap.size := block_lt_of_cell (hdd 0 _ rfl)
     have c0 := hcc 0 _ rfl
     have c1 := hcc 1 _ rfl
     have c2 := hcc 2 _ rfl
     have c3 := hcc 3 _ rfl
     have c4 := hcc 4 _ rfl
     have c5 := hcc 5 _ rfl
     have c6 := hcc 6 _ rfl
     have f0 := hdd 0 _ rfl
     have f1 := hdd 1 _ rfl
     have f2 := hdd 2 _ rfl
     have f3 := hdd 3 _ rfl
     have f4 := hdd 4 _ rfl
     have f5 := hdd 5 _ rfl
     have f6 := hdd 6 _ rfl
     rw [Nat.add_zero] at c0 f0
     simp only [tokSh] at f0 f1 f2 f3 f4 f5 f6
     have x1 : t.sat ≤ 1900 := by omega
     have x2 : t.fin ≤ 1900 := by omega
     have hi9 : i + 1 < 900000000000000 := by omega
     have hlz : (i : Int) < (out.length : Int) := by omega
     have hly : (i : Int) + 1 < (out.length : Int) + 2 := by omega
     generalize t.kind = kd at *
     generalize t.sat = sa at *
     generalize t.fin = fi at *
     generalize t.n = nn at *
     generalize t.lo = lo at *
     generalize t.hi = hh at *
     generalize t.r.length = rl at *
     clear hcc hdd e1 e2 hl1 hr1 hr2 hc hd ht s2 s4 hs19 HF HST
     go_wp2_with fail
     go_roundg (out.length - (i + 1))
     case measure => omega
     case rel => exact ⟨i + 1, hlt, by go_num, ⟨(HW.out.alloc HW.out.size _).alloc (by have := HW.out.size; simp; omega) _⟩, Nat.le_refl _⟩
    ·have hlz : ¬ (i : Int) < (out.length : Int) := by omega
     clear HF HST
     go_wp2_with fail
     go_ret
     exact ⟨rfl, Below.up HB5.out HW.out⟩
end Go.Proofs.YtamhkdlcoghdbaaDoor.PCls
