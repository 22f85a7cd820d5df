/- Out of Rx (wip/tools/prune2.py): the declarations alone that the texts of the trees name. -/
import Derived.Test.YtamhkdlcoghdbaaGreatDoorKMQRk
namespace Go.Proofs.YtamhkdlcoghdbaaGreatDoor.PCls
open Go.RowKit Go.Shelf Go.Proofs.YtamhkdlcoghdbaaGreatDoorW.PrintWords Go.Proofs.YtamhkdlcoghdbaaGreatDoorW.PrintLast Go.Proofs.YtamhkdlcoghdbaaGreatDoorW.PrintMore
set_option linter.unusedVariables false
set_option linter.unusedSimpArgs false
set_option maxHeartbeats 2000000 in
theorem no_keeps (W : World) (B : Nat) (s : ByteArray) (chars fold : Bool) (p : Nat) (V : Value) (x q c r : Int) (h : Rs W B s chars fold p V x q) (hx : x ≠ 0) :
  Calls Tryz.prog 87 #[.pointer (some ⟨B, 0, none⟩), .int .i64 c, .int .i64 r] W fun e w' => e = .returned (.tuple #[]) ∧ w' = W := by
 have c5 := h.c5
 have hx' : (x == 0) = false := by rw [beq_eq_false_iff_ne]; exact hx
 clear h hx
 go_enter Tryz.func87, Tryz.ntmps87
 go_wp2_with fail
 go_end0
 exact ⟨rfl, rfl⟩
theorem pair_cells (w : World) (a b : Int) : ∀ j u, (rowOf [⟨a, b⟩])[j]? = some u → (w.alloc (.cells #[.int .i64 a, .int .i64 b] 39)).cell? ((⟨w.heap.size, 0, none⟩ : Addr).add j) = some u := by
 have hk := heap_alloc_new w (.cells #[.int .i64 a, .int .i64 b] 39)
 intro j u hj
 have h : rowOf [(⟨a, b⟩ : S64)] = [.int .i64 a, .int .i64 b] := rfl
 rw [h] at hj
 match j, hj with
 | 0, hj => cases hj; exact lk_cell (i := 0) hk rfl
 | 1, hj => cases hj; exact lk_cell (i := 1) hk rfl
theorem Stp.grown {A w w' : World} {B base : Nat} {V : Option Nat} (h : Stp A w B base) (hg : w.grownBy w' V) (hV : ∀ k, V = some k → base ≤ k) (hb : base ≤ w.heap.size) : Stp A w' B base :=
 ⟨hg.os.trans h.os, hg.tape.trans h.tape, hg.output.trans h.output, Nat.le_trans h.size hg.size, fun k h1 h2 => (hg.block k (by omega) (fun e => by have := hV k e.symm; omega)).trans (h.block k h1 h2)⟩
def contP (s : ByteArray) (chars : Bool) (x0 k : Nat) (l : List S64) : Except Er It → Except Er (List S64 × Nat)
 | .error e => .error e
 | .ok i => Lx.parts clC s chars x0 k i.nx.toNat false (l ++ i.l)
def afterItem (s : ByteArray) (chars : Bool) (x0 : Nat) : Except Er It → Except Er It
 | .error e => .error e
 | .ok i => if i.isEnd = true ∧ Lx.here s i.nx.toNat [45] = true ∧ Lx.here s i.nx.toNat [45, 93] = false then Lx.span clC s chars x0 i (i.nx.toNat + 1) else .ok i
def afterSpan (ic p : Int) : Except Er It → Except Er It
 | .error e => .error e
 | .ok b => if b.c < ic then .error (34, p) else .ok { b with l := [⟨ic, b.c⟩] }
theorem parts_step {s : ByteArray} {chars : Bool} {x0 k p : Nat} {b : Bool} {l : List S64} (h : ¬ (b = false ∧ Lx.here s p [93] = true)) (hit : Lx.item clC s chars x0 p b = Lx.item clC s chars x0 p true) : Lx.parts clC s chars x0 (k + 1) p b l = contP s chars x0 k l (afterItem s chars x0 (Lx.item clC s chars x0 p true)) := by
 rw [parts_eq, if_neg h, part_eq, hit]
 generalize Lx.item clC s chars x0 p true = r
 cases r with
 | error e => rfl
 | ok i =>
  simp only [afterItem]
  generalize (if i.isEnd = true ∧ Lx.here s i.nx.toNat [45] = true ∧ Lx.here s i.nx.toNat [45, 93] = false then Lx.span clC s chars x0 i (i.nx.toNat + 1) else .ok i) = r
  cases r <;> rfl
theorem after_ok {s : ByteArray} {chars : Bool} {x0 k : Nat} {l il : List S64} {ie : Bool} {ic ia : Int} {nx : Nat} : contP s chars x0 k l (afterItem s chars x0 (.ok ⟨ie, ic, il, ia, (nx : Int)⟩)) = if ie = true ∧ Lx.here s nx [45] = true ∧ Lx.here s nx [45, 93] = false then contP s chars x0 k l (Lx.span clC s chars x0 ⟨ie, ic, il, ia, (nx : Int)⟩ (nx + 1)) else Lx.parts clC s chars x0 k nx false (l ++ il) := by
 simp only [afterItem, Int.toNat_natCast]
 by_cases h : ie = true ∧ Lx.here s nx [45] = true ∧ Lx.here s nx [45, 93] = false
 ·rw [if_pos h, if_pos h]
 ·rw [if_neg h, if_neg h]; rfl
theorem span_step {s : ByteArray} {chars : Bool} {x0 k p : Nat} {l il : List S64} {ic ia nx : Int} : contP s chars x0 k l (Lx.span clC s chars x0 ⟨true, ic, il, ia, nx⟩ p) = contP s chars x0 k l (if Lx.here s p [91, 58] = true then .error (34, ia) else if Lx.here s p [91, 61] = true then .error (34, ia) else afterSpan ic ia (Lx.item clC s chars x0 p true)) := by
 rw [span_eq]
 generalize Lx.item clC s chars x0 p true = r
 cases r <;> rfl
theorem span_ok2 {s : ByteArray} {chars : Bool} {x0 k : Nat} {l jl : List S64} {je : Bool} {ic jc ja p : Int} {ny : Nat} : contP s chars x0 k l (afterSpan ic p (.ok ⟨je, jc, jl, ja, (ny : Int)⟩)) = if jc < ic then .error (34, p) else Lx.parts clC s chars x0 k ny false (l ++ [⟨ic, jc⟩]) := by
 simp only [afterSpan]
 by_cases h : jc < ic
 ·rw [if_pos h, if_pos h]; rfl
 ·rw [if_neg h, if_neg h]; simp only [contP, Int.toNat_natCast]
/-- what brackets become -/
def bkR (chars fold not : Bool) (x : Lx.St) : Except Er (List S64 × Nat) → Except Er Lx.St
 | .error e => .error e
 | .ok (l, p) => .ok (Lx.put x { Lx.tok 1 with r := Lx.close clC chars fold not l } (p + 1))
section
variable (W : World) (B base : Nat) (s : ByteArray) (chars fold : Bool) (x : Lx.St) (V : Value) (R : Except Er (List S64 × Nat))
def BrErr (wc : World) : Prop := ∃ y : Er, R = .error y ∧ y.1 ≠ 0 ∧ Rs wc B s chars fold x.sat V y.1 y.2 ∧ Stp W wc B base
def BrOk (s3 s5 : Value) (wc : World) : Prop := ∃ (l : List S64) (p : Nat), s3 = .int .i64 p ∧ R = .ok (l, p) ∧ x.sat < p ∧ p + 1 ≤ s.size ∧ Row wc W.heap.size s5 l ∧ Below W.heap.size W wc
def BrHd (gg : Nat) (s3 s5 s6 : Value) (wr : World) : Prop := ∃ (p k : Nat) (b : Bool) (l : List S64), s3 = .int .i64 p ∧ s6 = .bool b ∧ p ≤ s.size + 2 ∧ s.size + 3 ≤ p + k ∧ s.size + 3 - p ≤ gg ∧ l.length ≤ 10 * p ∧ x.sat < p ∧ R = Lx.parts clC s chars x.sat k p b l ∧ Row wr W.heap.size s5 l ∧ Below W.heap.size W wr
end
set_option maxHeartbeats 16000000 in
set_option maxRecDepth 100000 in
theorem rbracket_calls (W : World) (B base : Nat) (s : ByteArray) (chars fold : Bool) (x : Lx.St) (V : Value) (hst : RSt W B base s chars fold x V) (hx : x.sat < s.size) :
  Calls Tryz.prog 89 #[.pointer (some ⟨B, 0, none⟩)] W fun e w' => RSteps W w' e B base s chars fold (Lx.bracket clC s chars fold x) := by
 obtain ⟨i0, hi, hz0, hz1, hz2⟩ := info64'
 have c0 := hst.sc.c0
 have c3 := hst.sc.c3
 have hs := hst.ss
 have HSC := Lib.hid (fun (w : World) (hb : Below W.heap.size W w) => hst.sc.below hb)
 have HBB := Lib.hid (And.intro hst.lt hst.hb)
 have HST := Lib.hid hst
 have HE : Hid (Lx.bracket clC s chars fold x = bkR chars fold (Lx.here s (x.sat + 1) [94]) x (Lx.parts clC s chars x.sat (s.size + 2) (x.sat + 1 + (if Lx.here s (x.sat + 1) [94] = true then 1 else 0)) true [])) := Lib.hid rfl
 have HH0 := Lib.hid (is_calls' W B (x.sat + 1) s ⟨#[94]⟩ c0 hs (by omega) (by decide))
 generalize hN : Lx.here s (x.sat + 1) [94] = bN at HE
 rw [show Lx.here s (x.sat + 1) (⟨#[94]⟩ : ByteArray).data.toList = bN from hN] at HH0
 obtain ⟨p0, hp0⟩ : ∃ p0 : Nat, p0 = x.sat + 1 + (if bN = true then 1 else 0) := ⟨_, rfl⟩
 rw [← hp0] at HE
 have hq0 : x.sat < p0 ∧ p0 ≤ s.size + 1 ∧ 1 ≤ p0 := by cases bN <;> simp at hp0 <;> omega
 obtain ⟨R, hR⟩ : ∃ R, R = Lx.parts clC s chars x.sat (s.size + 2) p0 true [] := ⟨_, rfl⟩
 rw [← hR] at HE
 have HR := Lib.hid hR
 have hq9 : (x.sat : Int) ≤ 2000 := by omega
 have HP0 := Lib.hid hp0
 clear hst hN hR hp0
 go_enter Tryz.func89, Tryz.ntmps89
 go_wp2_with fail
 refine HH0.out.mono ?_
 rintro e w ⟨rfl, hw⟩
 subst w
 go_upto_if 24 with fail
 go_cut [3] from 5 (fun s3 wc => s3 = .int .i64 p0 ∧ wc = W)
 case first =>
  cases bN with
  | true =>
   go_wp2_with fail
   go_meet
   exact ⟨by rw [HP0.out]; simp, rfl⟩
  | false =>
   go_wp2_with fail
   go_meet
   exact ⟨by rw [HP0.out]; simp, rfl⟩
 case rest =>
  obtain ⟨rfl, hw⟩ := hcut
  subst wc
  clear HH0 HP0
  go_upto_block 0 with fail
  go_cut [3, 5] from 6 (fun s3 s5 wc => BrOk W s x R s3 s5 wc ∨ BrErr W B base s chars fold x V R wc)
  case first =>
   go_wp2_with fail
   go_loopg [3, 5, 6] (s.size + 3 - p0) (fun gg s3 s5 s6 wr => BrHd W s chars x R gg s3 s5 s6 wr ∨ BrErr W B base s chars fold x V R wr)
   case atStart => exact .inl ⟨p0, s.size + 2, true, [], rfl, rfl, by omega, by omega, Nat.le_refl _, by simp, hq0.1, HR.out, Row.nil _ _, Below.refl _ _⟩
   case round =>
    rcases hrel with ⟨p, k, b, l, rfl, rfl, hpl, hk, hgg, hll, hxp, hP, hO, hBL⟩ | ⟨⟨y1, y2⟩, hy, hy0, hrs, hstp⟩
    ·
     as_aux_lemma =>
      obtain ⟨k, rfl⟩ : ∃ j, k = j + 1 := ⟨k - 1, by omega⟩
      have hrs := HSC.out wr hBL
      have d0 := hrs.c0
      have d5 := hrs.c5
      have hwr := hBL.size
      have HB := Lib.hid (And.intro hBL (And.intro hO hrs))
      have HP := Lib.hid hP
      have HI := Lib.hid (fun t ht => is_calls' wr B p s t d0 hs (by omega) ht)
      have HIT := Lib.hid (ritem_calls wr B wr.heap.size p x.sat x.sat s chars fold V hrs (Nat.le_refl _) hrs.lt hs (by omega))
      have HNO := Lib.hid (fun (c q : Int) => no_calls wr B wr.heap.size s chars fold x.sat V c q hrs (Nat.le_refl _))
      obtain ⟨e1, he1⟩ : ∃ b, b = Lx.here s p [93] := ⟨_, rfl⟩
      obtain ⟨m1, hm1⟩ : ∃ b, b = Lx.here s p [45] := ⟨_, rfl⟩
      obtain ⟨l1, hl1⟩ : ∃ b, b = Lx.here s p [45, 93] := ⟨_, rfl⟩
      have HH := Lib.hid (And.intro he1 (And.intro hm1 hl1))
      clear hP hO hBL hrs he1 hm1 hl1 c0 c3
      go_upto_region 10 with fail
      refine (HI.out ⟨#[93]⟩ (by decide)).mono ?_
      rintro e w ⟨rfl, hw⟩
      subst w
      rw [show Lx.here s p (⟨#[93]⟩ : ByteArray).data.toList = e1 from HH.out.1.symm]
      go_upto_region 10 with fail
      go_cut [39] (fun s39 wc => s39 = .bool (e1 && !b) ∧ wc = wr)
      case first => cases b <;> cases e1 <;> (go_wp2_with fail; go_meet; exact ⟨rfl, rfl⟩)
      case rest =>
       obtain ⟨rfl, hw⟩ := hcut
       subst wc
       cases heb : (e1 && !b) with
       | true =>
        have heb1 : e1 = true ∧ b = false := by simpa using heb
        obtain ⟨rfl, rfl⟩ := heb1
        clear heb
        go_wp2_with fail
        go_meet
        have hpe := here_le HH.out.1.symm
        simp only [List.length_cons, List.length_nil] at hpe
        exact .inl ⟨l, p, rfl, by rw [HP.out, parts_eq, if_pos ⟨rfl, HH.out.1.symm⟩], hxp, by omega, HB.out.2.1, HB.out.1⟩
       | false =>
       have HBE := Lib.hid (show ¬ (b = false ∧ Lx.here s p [93] = true) by
        rintro ⟨g1, g2⟩
        rw [← HH.out.1] at g2
        rw [g1, g2] at heb
        cases heb)
       clear heb
       go_upto_region 13 with fail
       refine (HI.out ⟨#[45]⟩ (by decide)).mono ?_
       rintro e w ⟨rfl, hw⟩
       subst w
       rw [show Lx.here s p (⟨#[45]⟩ : ByteArray).data.toList = m1 from HH.out.2.1.symm]
       go_upto_region 13 with fail
       refine (HI.out ⟨#[45, 93]⟩ (by decide)).mono ?_
       rintro e w ⟨rfl, hw⟩
       subst w
       rw [show Lx.here s p (⟨#[45, 93]⟩ : ByteArray).data.toList = l1 from HH.out.2.2.symm]
       go_upto_region 13 with fail
       clear HI
       go_cut [54] (fun s54 wc => s54 = .bool (m1 && !b && !l1) ∧ wc = wr)
       case first => cases b <;> cases m1 <;> cases l1 <;> (go_wp2_with fail; go_meet; exact ⟨rfl, rfl⟩)
       case rest =>
        obtain ⟨rfl, hw⟩ := hcut
        subst wc
        cases hmb : (m1 && !b && !l1) with
        | true =>
         as_aux_lemma =>
          have hmb1 : (m1 = true ∧ b = false) ∧ l1 = false := by simpa using hmb
          obtain ⟨⟨rfl, rfl⟩, rfl⟩ := hmb1
          have hb := here_byt HH.out.2.1.symm
          have hitem := item_minus (chars := chars) (x0 := x.sat) HH.out.2.1.symm HH.out.2.2.symm
          have hRR : R = if p + 1 = s.size then .error (33, (x.sat : Int)) else .error (34, (p : Int)) := by
           rw [HP.out, parts_eq, if_neg HBE.out, part_eq, hitem]
           by_cases hp1 : p + 1 = s.size
           ·rw [if_pos hp1, if_pos hp1]
           ·rw [if_neg hp1, if_neg hp1]
          have HRR := Lib.hid hRR
          have hb1 := hb.1
          have hpp : (p : Int) ≤ 2000 := by omega
          clear hRR hitem HP HIT HH hb hmb
          by_cases hp1 : p + 1 = s.size
          ·have HX := Lib.hid (HRR.out.trans (if_pos hp1))
           have h9 : (s.size : Int) ≤ (p : Int) + 1 := by omega
           clear HRR hp1
           go_wp2_with fail
           refine (HNO.out 33 x.sat).mono ?_
           rintro e w2 ⟨rfl, hrs, hstp⟩
           have HE2 := Lib.hid (And.intro hrs hstp)
           have HKE := Lib.hid (no_keeps w2 B s chars fold x.sat V 33 x.sat 34 p hrs (by decide))
           clear hrs hstp HNO
           go_wp2_with fail
           refine HKE.out.mono ?_
           rintro e w ⟨rfl, hw⟩
           subst w
           go_wp2_with fail
           go_meet
           exact .inr ⟨_, HX.out, (show (33 : Int) ≠ 0 by decide), HE2.out.1, (Stp.of_below HB.out.1 HBB.out.2).trans (HE2.out.2.lower (by have := HBB.out.2; omega))⟩
          ·have HX := Lib.hid (HRR.out.trans (if_neg hp1))
           have h9 : ¬ (s.size : Int) ≤ (p : Int) + 1 := by omega
           clear HRR hp1
           go_wp2_with fail
           refine (HNO.out 34 p).mono ?_
           rintro e w2 ⟨rfl, hrs, hstp⟩
           have HE2 := Lib.hid (And.intro hrs hstp)
           clear hrs hstp HNO
           go_wp2_with fail
           go_meet
           exact .inr ⟨_, HX.out, (show (34 : Int) ≠ 0 by decide), HE2.out.1, (Stp.of_below HB.out.1 HBB.out.2).trans (HE2.out.2.lower (by have := HBB.out.2; omega))⟩
        | false =>
         as_aux_lemma =>
          have h3 : b = true ∨ Lx.here s p [45] = false ∨ Lx.here s p [45, 93] = true := by
           rw [← HH.out.2.1, ← HH.out.2.2]
           revert hmb
           cases b <;> cases m1 <;> cases l1 <;> simp
          have hit := item_plain (chars := chars) (x0 := x.sat) h3
          have HX := Lib.hid (show R = contP s chars x.sat k l (afterItem s chars x.sat (Lx.item clC s chars x.sat p true)) by rw [HP.out, parts_step HBE.out hit])
          have hpp : (p : Int) ≤ 2002 := by omega
          clear h3 hit hmb HH HP HBE
          go_wp2_with fail
          refine HIT.out.mono ?_
          rintro e w3 hR
          clear HIT
          cases hr : Lx.item clC s chars x.sat p true with
          | error y =>
           as_aux_lemma =>
            rw [hr] at hR
            obtain ⟨⟨ib, iq, iA, iN, ik, it, rfl⟩, hrs3, hst3⟩ := hR
            obtain ⟨y1, y2⟩ := y
            have hRR : R = .error (y1, y2) := by rw [HX.out, hr]; rfl
            have hne := (item_err hr (by omega)).ne
            simp only at hne hrs3
            have hrs4 := alloc_rs hrs3 (.cells #[.bool ib, .int .i64 iq, .slice iA iN ik, .int .i64 it] 185)
            have d6 := hrs4.c5
            have hst4 := alloc_stp hst3 hst3.size (.cells #[.bool ib, .int .i64 iq, .slice iA iN ik, .int .i64 it] 185)
            have hy' : (y1 != 0) = true := by rw [bne_iff_ne]; exact hne
            have HE3 := Lib.hid (And.intro hRR (And.intro hne (And.intro hrs4 hst4)))
            clear hRR hne hrs3 hrs4 hst3 hst4 hr HX HNO
            go_wp2_with fail
            go_meet
            exact .inr ⟨(y1, y2), HE3.out.1, HE3.out.2.1, HE3.out.2.2.1, (Stp.of_below HB.out.1 HBB.out.2).trans (HE3.out.2.2.2.lower (by have := HBB.out.2; omega))⟩
          | ok i =>
           as_aux_lemma =>
            rw [hr] at hR
            obtain ⟨A0, n, rfl, hrow, hbw⟩ := hR
            obtain ⟨ad, n', hv, hnews⟩ := hrow.news (item_ne hr)
            cases hv
            have hok := item_ok hr
            have hXX := HX.out.trans (by rw [hr])
            have hsat := item_sat' hr
            obtain ⟨ie, ic, il, ia, ix⟩ := i
            obtain ⟨nx, hnx, hnx1, hnx2⟩ := hok.n
            simp only at hnx hnews hrow hXX hsat
            subst hnx
            rw [after_ok] at hXX
            have hil : il.length ≤ 10 := hok.l
            have hic : -9223372036854775808 ≤ ic ∧ ic ≤ 9223372036854775807 := by have h1 := hok.c0; have h2 := hok.c1; simp only at h1 h2; omega
            have HIC := Lib.hid hic
            have HSAT := Lib.hid hsat
            generalize hh1 : Lx.here s nx [45] = b1 at hXX
            generalize hh2 : Lx.here s nx [45, 93] = b2 at hXX
            have hb3 := HB.out.1.trans (hbw.mono hwr)
            have hb4 := hb3.alloc hb3.size (.cells #[.bool ie, .int .i64 ic, .slice (some ad) il.length n, .int .i64 nx] 185)
            have hrs4 := HSC.out _ hb4
            have HH1 := Lib.hid (is_calls' (w3.alloc (.cells #[.bool ie, .int .i64 ic, .slice (some ad) il.length n, .int .i64 nx] 185)) B nx s ⟨#[45]⟩ hrs4.c0 hs (by omega) (by decide))
            have HH2 := Lib.hid (is_calls' (w3.alloc (.cells #[.bool ie, .int .i64 ic, .slice (some ad) il.length n, .int .i64 nx] 185)) B nx s ⟨#[45, 93]⟩ hrs4.c0 hs (by omega) (by decide))
            rw [show Lx.here s nx (⟨#[45]⟩ : ByteArray).data.toList = b1 from hh1] at HH1
            rw [show Lx.here s nx (⟨#[45, 93]⟩ : ByteArray).data.toList = b2 from hh2] at HH2
            have HXX := Lib.hid hXX
            have HB4 := Lib.hid hb4
            have hO := HB.out.2.1
            have hown3 := ownMove hO.1 (fun k hk => hbw.block k (ownLt hO.1 k hk).2)
            have HOW := Lib.hid (hown3.alloc (.cells #[.bool ie, .int .i64 ic, .slice (some ad) il.length n, .int .i64 nx] 185))
            have HLL := Lib.hid (And.intro hll hO.2)
            have HNW := Lib.hid hrow.2.1
            have HCW := Lib.hid (hrow.below ((Below.refl _ w3).alloc (Nat.le_refl _) (.cells #[.bool ie, .int .i64 ic, .slice (some ad) il.length n, .int .i64 nx] 185))).cellsOf
            have hsz3 : W.heap.size ≤ w3.heap.size := hb3.size
            have hsz4 : (w3.alloc (.cells #[.bool ie, .int .i64 ic, .slice (some ad) il.length n, .int .i64 nx] 185)).heap.size = w3.heap.size + 1 := by simp
            have HSZ4 := Lib.hid hsz4
            have HOLT := Lib.hid (fun k hk => (ownLt hown3 k hk).2)
            have d7 := hrs4.c5
            have HRS4 := Lib.hid hrs4
            have d8 := hrs4.c0
            clear hh1 hh2 hb3 hb4 hbw hnews hrow hok hXX hr HX hO hown3 hrs4 hic hsat hsz4 HNO hll
            obtain ⟨A, c6, rfl⟩ := own_slice HOW.out
            go_upto_region 21 with fail
            refine HH1.out.mono ?_
            rintro e w ⟨rfl, hw⟩
            subst w
            go_upto_region 21 with fail
            refine HH2.out.mono ?_
            rintro e w ⟨rfl, hw⟩
            subst w
            clear HH1 HH2
            go_upto_region 21 with fail
            go_cut [95] (fun s95 wc => s95 = .bool (!ie || !b1 || b2) ∧ wc = w3.alloc (.cells #[.bool ie, .int .i64 ic, .slice (some ad) il.length n, .int .i64 nx] 185))
            case first => cases ie <;> cases b1 <;> cases b2 <;> (go_wp2_with fail; go_meet; exact ⟨rfl, rfl⟩)
            case rest =>
             obtain ⟨rfl, hw⟩ := hcut
             subst wc
             cases hcb : (!ie || !b1 || b2) with
             | true =>
              as_aux_lemma =>
               have HZ := Lib.hid (show R = Lx.parts clC s chars x.sat k nx false (l ++ il) by
                rw [HXX.out, if_neg (by rintro ⟨g1, g2, g3⟩; rw [g1, g2, g3] at hcb; cases hcb)])
               clear HXX hcb
               go_wp2_with (at_builtin; refine wpList_append_own _ rfl _ _ 35 rfl W.heap.size 39 i0 _ 2 16 Tryz.underlying35 hi hz0 hz1 hz2 rfl (by decide) _ _ _ rfl HOW.out ad il.length n (rowOf il) rfl (rowOf_length il) HCW.out (one_rowOf il) ?qa4 ?qa5 HB4.out.size ?_)
               case qa4 => have := HLL.out.1; unfold maxLen; omega
               case qa5 => have := HLL.out.1; omega
               intro v' w5 hown hgrow hnil
               have HRW := Lib.hid (show Row w5 W.heap.size v' (l ++ il) from ⟨by rw [rowOf_append, List.length_append]; exact hown, (inR_append _ _).2 ⟨HLL.out.2.1, HNW.out⟩, by have := HLL.out.1; rw [List.length_append]; omega⟩)
               have HBW := Lib.hid (HB4.out.grown hgrow HB4.out.size (fun k hk => (HOW.out.lt k hk).1))
               have hk5 := (hgrow.block w3.heap.size (by rw [HSZ4.out]; omega) (fun e => by have := HOLT.out _ e.symm; omega)).trans (heap_alloc_new w3 (.cells #[.bool ie, .int .i64 ic, .slice (some ad) il.length n, .int .i64 nx] 185))
               have r3 := lk_cell (i := 3) hk5 rfl
               clear hown hgrow hnil HOW HCW HNW hk5
               go_wp2
               go_roundg (s.size + 3 - nx)
               case measure => omega
               case rel => exact .inl ⟨nx, k, false, l ++ il, rfl, rfl, by omega, by omega, by omega, by have := HLL.out.1; rw [List.length_append]; omega, by omega, HZ.out, HRW.out, HBW.out⟩
             | false =>
              as_aux_lemma =>
               have hcb3 : (ie = true ∧ b1 = true) ∧ b2 = false := by simpa using hcb
               obtain ⟨⟨rfl, rfl⟩, rfl⟩ := hcb3
               have hia := HSAT.out rfl
               subst hia
               have HZ := Lib.hid (show R = contP s chars x.sat k l (Lx.span clC s chars x.sat ⟨true, ic, il, p, nx⟩ (nx + 1)) by rw [HXX.out, if_pos (by simp)])
               rw [span_step] at HZ
               clear HXX hcb HSAT HCW HNW
               have hnn : (nx : Int) ≤ 2002 := by omega
               have HS1 := Lib.hid (is_calls' (w3.alloc (.cells #[.bool true, .int .i64 ic, .slice (some ad) il.length n, .int .i64 nx] 185)) B (nx + 1) s ⟨#[91, 58]⟩ d8 hs (by omega) (by decide))
               have HS2 := Lib.hid (is_calls' (w3.alloc (.cells #[.bool true, .int .i64 ic, .slice (some ad) il.length n, .int .i64 nx] 185)) B (nx + 1) s ⟨#[91, 61]⟩ d8 hs (by omega) (by decide))
               obtain ⟨a1, ha1⟩ : ∃ b, b = Lx.here s (nx + 1) [91, 58] := ⟨_, rfl⟩
               obtain ⟨a2, ha2⟩ : ∃ b, b = Lx.here s (nx + 1) [91, 61] := ⟨_, rfl⟩
               rw [show Lx.here s (nx + 1) (⟨#[91, 58]⟩ : ByteArray).data.toList = a1 from ha1.symm] at HS1
               rw [show Lx.here s (nx + 1) (⟨#[91, 61]⟩ : ByteArray).data.toList = a2 from ha2.symm] at HS2
               rw [← ha1, ← ha2] at HZ
               clear ha1 ha2
               go_upto_region 27 with fail
               refine HS1.out.mono ?_
               rintro e w ⟨rfl, hw⟩
               subst w
               go_upto_region 27 with fail
               refine HS2.out.mono ?_
               rintro e w ⟨rfl, hw⟩
               subst w
               clear HS1 HS2
               go_upto_region 27 with fail
               go_cut [114] (fun s114 wc => s114 = .bool (a1 || a2) ∧ wc = w3.alloc (.cells #[.bool true, .int .i64 ic, .slice (some ad) il.length n, .int .i64 nx] 185))
               case first => cases a1 <;> cases a2 <;> (go_wp2_with fail; go_meet; exact ⟨rfl, rfl⟩)
               case rest =>
                obtain ⟨rfl, hw⟩ := hcut
                subst wc
                cases haa : (a1 || a2) with
                | true =>
                 as_aux_lemma =>
                  have HRR : Hid (R = .error (34, (p : Int))) := Lib.hid (by
                   rw [HZ.out]
                   cases a1 <;> cases a2 <;> first | rfl | (exact absurd haa (by decide)))
                  have HNO4 := Lib.hid (no_calls (w3.alloc (.cells #[.bool true, .int .i64 ic, .slice (some ad) il.length n, .int .i64 nx] 185)) B (w3.alloc (.cells #[.bool true, .int .i64 ic, .slice (some ad) il.length n, .int .i64 nx] 185)).heap.size s chars fold x.sat V 34 p HRS4.out (Nat.le_refl _))
                  clear HZ haa
                  go_wp2_with fail
                  refine HNO4.out.mono ?_
                  rintro e w5 ⟨rfl, hrs, hstp⟩
                  have HE2 := Lib.hid (And.intro hrs hstp)
                  clear hrs hstp HNO4
                  go_wp2_with fail
                  go_meet
                  exact .inr ⟨_, HRR.out, (show (34 : Int) ≠ 0 by decide), HE2.out.1, (Stp.of_below HB4.out HBB.out.2).trans (HE2.out.2.lower (by have := HBB.out.2; rw [HSZ4.out]; omega))⟩
                | false =>
                 as_aux_lemma =>
                  have HZZ0 := Lib.hid (show R = contP s chars x.sat k l (afterSpan ic p (Lx.item clC s chars x.sat (nx + 1) true)) by
                   rw [HZ.out]
                   cases a1 <;> cases a2 <;> first | rfl | (exact absurd haa (by decide)))
                  have HIT2 := Lib.hid (ritem_calls (w3.alloc (.cells #[.bool true, .int .i64 ic, .slice (some ad) il.length n, .int .i64 nx] 185)) B (w3.alloc (.cells #[.bool true, .int .i64 ic, .slice (some ad) il.length n, .int .i64 nx] 185)).heap.size (nx + 1) x.sat x.sat s chars fold V HRS4.out (Nat.le_refl _) HRS4.out.lt hs (by omega))
                  clear HZ haa
                  go_wp2_with fail
                  refine HIT2.out.mono ?_
                  rintro e w5 hR2
                  clear HIT2
                  cases hr2 : Lx.item clC s chars x.sat (nx + 1) true with
                  | error y =>
                   as_aux_lemma =>
                    rw [hr2] at hR2
                    obtain ⟨⟨ib, jc, iA, iN, ik, it, rfl⟩, hrs5, hst5⟩ := hR2
                    obtain ⟨y1, y2⟩ := y
                    have HRR := Lib.hid (show R = .error (y1, y2) by rw [HZZ0.out, hr2]; rfl)
                    have hne := (item_err hr2 (by omega)).ne
                    simp only at hne hrs5
                    have HNE := Lib.hid hne
                    have hy' : (y1 == 0) = false := by rw [beq_eq_false_iff_ne]; exact hne
                    have hs5 : w3.heap.size + 1 ≤ w5.heap.size := by have := hst5.size; rw [HSZ4.out] at this; exact this
                    have hA5 := (hst5.block w3.heap.size (by rw [HSZ4.out]; omega) (by have := HBB.out; omega)).trans (heap_alloc_new w3 (.cells #[.bool true, .int .i64 ic, .slice (some ad) il.length n, .int .i64 nx] 185))
                    have hA6 := (heap_alloc_old w5 (.cells #[.bool ib, .int .i64 jc, .slice iA iN ik, .int .i64 it] 185) (by omega)).trans hA5
                    have k1 := lk_cell (i := 1) hA6 rfl
                    have hrs6 := alloc_rs hrs5 (.cells #[.bool ib, .int .i64 jc, .slice iA iN ik, .int .i64 it] 185)
                    have d9 := hrs6.c5
                    have hb5 : base ≤ w5.heap.size := by have := HBB.out; omega
                    have HRX := Lib.hid (And.intro hrs6 (alloc_stp ((Stp.of_below HB4.out HBB.out.2).trans (hst5.lower (by have := HBB.out.2; rw [HSZ4.out]; omega))) hb5 (.cells #[.bool ib, .int .i64 jc, .slice iA iN ik, .int .i64 it] 185)))
                    have HOX := Lib.hid ((ownMove HOW.out (fun k hk => hst5.block k (ownLt HOW.out k hk).2 (by have := (ownLt HOW.out k hk).1; have := HBB.out; omega))).alloc (.cells #[.bool ib, .int .i64 jc, .slice iA iN ik, .int .i64 it] 185))
                    have HJX := Lib.hid (heap_alloc_new w5 (.cells #[.bool ib, .int .i64 jc, .slice iA iN ik, .int .i64 it] 185))
                    have hsx : (w5.alloc (.cells #[.bool ib, .int .i64 jc, .slice iA iN ik, .int .i64 it] 185)).heap.size = w5.heap.size + 1 := by simp
                    have HXS := Lib.hid (show W.heap.size ≤ (w5.alloc (.cells #[.bool ib, .int .i64 jc, .slice iA iN ik, .int .i64 it] 185)).heap.size ∧ w5.heap.size < (w5.alloc (.cells #[.bool ib, .int .i64 jc, .slice iA iN ik, .int .i64 it] 185)).heap.size by rw [hsx]; omega)
                    have k14 := lk_cell (i := 1) HJX.out rfl
                    clear hrs5 hst5 hr2 hne hA5 hA6 hrs6 HOW HRS4 HZZ0 hsx
                    have HOX2 := Lib.hid (HOX.out.alloc (.cells #[.int .i64 ic, .int .i64 jc] 39))
                    have hsx2 : ((w5.alloc (.cells #[.bool ib, .int .i64 jc, .slice iA iN ik, .int .i64 it] 185)).alloc (.cells #[.int .i64 ic, .int .i64 jc] 39)).heap.size = (w5.alloc (.cells #[.bool ib, .int .i64 jc, .slice iA iN ik, .int .i64 it] 185)).heap.size + 1 := by simp
                    have HSX2 := Lib.hid hsx2
                    have HPC : Hid (∀ j u, (rowOf [⟨ic, jc⟩])[j]? = some u → ((w5.alloc (.cells #[.bool ib, .int .i64 jc, .slice iA iN ik, .int .i64 it] 185)).alloc (.cells #[.int .i64 ic, .int .i64 jc] 39)).cell? ((⟨w5.heap.size + 1, 0, none⟩ : Addr).add j) = some u) := Lib.hid (by have h := pair_cells (w5.alloc (.cells #[.bool ib, .int .i64 jc, .slice iA iN ik, .int .i64 it] 185)) ic jc; rw [show (w5.alloc (.cells #[.bool ib, .int .i64 jc, .slice iA iN ik, .int .i64 it] 185)).heap.size = w5.heap.size + 1 by simp] at h; exact h)
                    clear hsx2
                    go_wp2_with (at_builtin; refine wpList_append_own _ rfl _ _ 35 rfl W.heap.size 39 i0 _ 2 16 Tryz.underlying35 hi hz0 hz1 hz2 rfl (by decide) _ _ _ rfl HOX2.out ⟨w5.heap.size + 1, 0, none⟩ 1 1 (rowOf [⟨ic, jc⟩]) rfl (rowOf_length [⟨ic, jc⟩]) HPC.out (one_rowOf [⟨ic, jc⟩]) ?qb4 ?qb5 (by rw [HSX2.out]; have := HXS.out; omega) ?_)
                    case qb4 => have := HLL.out.1; unfold maxLen; omega
                    case qb5 => have := HLL.out.1; omega
                    intro v' w8 hown hgrow hnil
                    have hk8 := (hgrow.block w5.heap.size (by rw [HSX2.out]; have := HXS.out; omega) (fun e => by have := HOX.out.lt _ e.symm; have := HOLT.out _ e.symm; have := HXS.out; omega)).trans ((heap_alloc_old _ _ HXS.out.2).trans HJX.out)
                    have r3 := lk_cell (i := 3) hk8 rfl
                    have hrs8 : Rs w8 B s chars fold x.sat V y1 y2 := (hgrow.block B (by rw [HSX2.out]; have := HXS.out; have := HBB.out; omega) (fun e => by have := (HOX.out.lt _ e.symm).1; have := HBB.out; omega)).trans (alloc_rs HRX.out.1 _)
                    have hst8 : Stp W w8 B base := Stp.grown (alloc_stp HRX.out.2 (by have := HXS.out; have := HBB.out; omega) _) hgrow (fun k hk => by have := (HOX.out.lt k hk).1; have := HBB.out; omega) (by rw [HSX2.out]; have := HXS.out; have := HBB.out; omega)
                    have HE8 := Lib.hid (And.intro hrs8 hst8)
                    clear hown hgrow hnil hk8 hrs8 hst8 HOX HOX2
                    go_wp2
                    go_roundg 0
                    case measure => omega
                    case rel => exact .inr ⟨(y1, y2), HRR.out, HNE.out, HE8.out.1, HE8.out.2⟩
                  | ok j =>
                   as_aux_lemma =>
                    rw [hr2] at hR2
                    obtain ⟨jA, jn, rfl, hrow5, hb5⟩ := hR2
                    have hok5 := item_ok hr2
                    have hZZ := HZZ0.out.trans (by rw [hr2])
                    obtain ⟨je, jc, jl, ja, jx⟩ := j
                    obtain ⟨ny, hny, hny1, hny2⟩ := hok5.n
                    have hjc : -9223372036854775808 ≤ jc ∧ jc ≤ 9223372036854775807 := by have h1 := hok5.c0; have h2 := hok5.c1; simp only at h1 h2; omega
                    simp only at hny
                    subst hny
                    rw [span_ok2] at hZZ
                    have hB5 := HB4.out.trans (hb5.mono HB4.out.size)
                    have hB6 := hB5.alloc hB5.size (.cells #[.bool je, .int .i64 jc, .slice jA jl.length jn, .int .i64 ny] 185)
                    have HB6 := Lib.hid hB6
                    have hrs6 := HSC.out _ hB6
                    have HRS6 := Lib.hid hrs6
                    have d9 := hrs6.c5
                    have hs5 : w3.heap.size + 1 ≤ w5.heap.size := by have := hb5.size; rw [HSZ4.out] at this; exact this
                    have hA5 := (hb5.block w3.heap.size (by rw [HSZ4.out]; omega)).trans (heap_alloc_new w3 (.cells #[.bool true, .int .i64 ic, .slice (some ad) il.length n, .int .i64 nx] 185))
                    have hA6 := (heap_alloc_old w5 (.cells #[.bool je, .int .i64 jc, .slice jA jl.length jn, .int .i64 ny] 185) (by omega)).trans hA5
                    have HA6 := Lib.hid hA6
                    have k1 := lk_cell (i := 1) hA6 rfl
                    have HOY := Lib.hid ((ownMove HOW.out (fun k hk => hb5.block k (ownLt HOW.out k hk).2)).alloc (.cells #[.bool je, .int .i64 jc, .slice jA jl.length jn, .int .i64 ny] 185))
                    have HJY := Lib.hid (heap_alloc_new w5 (.cells #[.bool je, .int .i64 jc, .slice jA jl.length jn, .int .i64 ny] 185))
                    have hsx : (w5.alloc (.cells #[.bool je, .int .i64 jc, .slice jA jl.length jn, .int .i64 ny] 185)).heap.size = w5.heap.size + 1 := by simp
                    have HSY := Lib.hid hsx
                    have HIN := Lib.hid (Row.two w5 ic jc HIC.out hjc).2.1
                    have HZJ := Lib.hid hZZ
                    have k14 := lk_cell (i := 1) HJY.out rfl
                    clear hrow5 hb5 hok5 hZZ hB5 hB6 hrs6 hA5 hA6 hsx hjc hr2 HOW HRS4 HZZ0
                    by_cases hji : jc < ic
                    ·
                     as_aux_lemma =>
                      have HRR := Lib.hid (show R = .error (34, (p : Int)) by rw [HZJ.out, if_pos hji])
                      have HNO6 := Lib.hid (no_calls (w5.alloc (.cells #[.bool je, .int .i64 jc, .slice jA jl.length jn, .int .i64 ny] 185)) B (w5.alloc (.cells #[.bool je, .int .i64 jc, .slice jA jl.length jn, .int .i64 ny] 185)).heap.size s chars fold x.sat V 34 p HRS6.out (Nat.le_refl _))
                      clear HZJ
                      go_wp2_with fail
                      refine HNO6.out.mono ?_
                      rintro e w6 ⟨rfl, hrs7, hst7⟩
                      have hs6 : w5.heap.size + 1 ≤ w6.heap.size := by have := hst7.size; rw [HSY.out] at this; exact this
                      have hA7 := (hst7.block w3.heap.size (by rw [HSY.out]; omega) (by have := HBB.out; omega)).trans HA6.out
                      have k2 := lk_cell (i := 1) hA7 rfl
                      have HRX := Lib.hid (And.intro hrs7 ((Stp.of_below HB6.out HBB.out.2).trans (hst7.lower (by rw [HSY.out]; have := HBB.out.2; omega))))
                      have HOX := Lib.hid (ownMove HOY.out (fun k hk => hst7.block k (ownLt HOY.out k hk).2 (by have := (ownLt HOY.out k hk).1; have := HBB.out; omega)))
                      have HJX := Lib.hid ((hst7.block w5.heap.size (by rw [HSY.out]; omega) (by have := HBB.out; omega)).trans HJY.out)
                      have HXS := Lib.hid (show W.heap.size ≤ w6.heap.size ∧ w5.heap.size < w6.heap.size by omega)
                      have k15 := lk_cell (i := 1) HJX.out rfl
                      clear hrs7 hst7 hA7 HNO6 k1 k14 d9
                      have HOX2 := Lib.hid (HOX.out.alloc (.cells #[.int .i64 ic, .int .i64 jc] 39))
                      have hsx2 : (w6.alloc (.cells #[.int .i64 ic, .int .i64 jc] 39)).heap.size = w6.heap.size + 1 := by simp
                      have HSX2 := Lib.hid hsx2
                      have HPC : Hid (∀ j u, (rowOf [⟨ic, jc⟩])[j]? = some u → (w6.alloc (.cells #[.int .i64 ic, .int .i64 jc] 39)).cell? ((⟨w6.heap.size, 0, none⟩ : Addr).add j) = some u) := Lib.hid (by have h := pair_cells w6 ic jc; skip; exact h)
                      clear hsx2
                      go_wp2_with (at_builtin; refine wpList_append_own _ rfl _ _ 35 rfl W.heap.size 39 i0 _ 2 16 Tryz.underlying35 hi hz0 hz1 hz2 rfl (by decide) _ _ _ rfl HOX2.out ⟨w6.heap.size, 0, none⟩ 1 1 (rowOf [⟨ic, jc⟩]) rfl (rowOf_length [⟨ic, jc⟩]) HPC.out (one_rowOf [⟨ic, jc⟩]) ?qc4 ?qc5 (by rw [HSX2.out]; have := HXS.out; omega) ?_)
                      case qc4 => have := HLL.out.1; unfold maxLen; omega
                      case qc5 => have := HLL.out.1; omega
                      intro v' w8 hown hgrow hnil
                      have hk8 := (hgrow.block w5.heap.size (by rw [HSX2.out]; have := HXS.out; omega) (fun e => by have := HOX.out.lt _ e.symm; have := HOLT.out _ e.symm; have := HXS.out; omega)).trans ((heap_alloc_old _ _ HXS.out.2).trans HJX.out)
                      have r3 := lk_cell (i := 3) hk8 rfl
                      have hrs8 : Rs w8 B s chars fold x.sat V 34 p := (hgrow.block B (by rw [HSX2.out]; have := HXS.out; have := HBB.out; omega) (fun e => by have := (HOX.out.lt _ e.symm).1; have := HBB.out; omega)).trans (alloc_rs HRX.out.1 _)
                      have hst8 : Stp W w8 B base := Stp.grown (alloc_stp HRX.out.2 (by have := HXS.out; have := HBB.out; omega) _) hgrow (fun k hk => by have := (HOX.out.lt k hk).1; have := HBB.out; omega) (by rw [HSX2.out]; have := HXS.out; have := HBB.out; omega)
                      have HE8 := Lib.hid (And.intro hrs8 hst8)
                      clear hown hgrow hnil hk8 hrs8 hst8 HOX HOX2
                      go_wp2
                      go_roundg 0
                      case measure => omega
                      case rel => exact .inr ⟨(34, (p : Int)), HRR.out, (show (34 : Int) ≠ 0 by decide), HE8.out.1, HE8.out.2⟩
                    ·
                     as_aux_lemma =>
                      have HZZ := Lib.hid (show R = Lx.parts clC s chars x.sat k ny false (l ++ [⟨ic, jc⟩]) by rw [HZJ.out, if_neg hji])
                      have HOX := Lib.hid HOY.out
                      have HJX := Lib.hid HJY.out
                      have HXS := Lib.hid (show W.heap.size ≤ (w5.alloc (.cells #[.bool je, .int .i64 jc, .slice jA jl.length jn, .int .i64 ny] 185)).heap.size ∧ w5.heap.size < (w5.alloc (.cells #[.bool je, .int .i64 jc, .slice jA jl.length jn, .int .i64 ny] 185)).heap.size by rw [HSY.out]; omega)
                      clear HZJ
                      have HOX2 := Lib.hid (HOX.out.alloc (.cells #[.int .i64 ic, .int .i64 jc] 39))
                      have hsx2 : ((w5.alloc (.cells #[.bool je, .int .i64 jc, .slice jA jl.length jn, .int .i64 ny] 185)).alloc (.cells #[.int .i64 ic, .int .i64 jc] 39)).heap.size = (w5.alloc (.cells #[.bool je, .int .i64 jc, .slice jA jl.length jn, .int .i64 ny] 185)).heap.size + 1 := by simp
                      have HSX2 := Lib.hid hsx2
                      have HPC : Hid (∀ j u, (rowOf [⟨ic, jc⟩])[j]? = some u → ((w5.alloc (.cells #[.bool je, .int .i64 jc, .slice jA jl.length jn, .int .i64 ny] 185)).alloc (.cells #[.int .i64 ic, .int .i64 jc] 39)).cell? ((⟨w5.heap.size + 1, 0, none⟩ : Addr).add j) = some u) := Lib.hid (by have h := pair_cells (w5.alloc (.cells #[.bool je, .int .i64 jc, .slice jA jl.length jn, .int .i64 ny] 185)) ic jc; rw [show (w5.alloc (.cells #[.bool je, .int .i64 jc, .slice jA jl.length jn, .int .i64 ny] 185)).heap.size = w5.heap.size + 1 by simp] at h; exact h)
                      clear hsx2
                      go_wp2_with (at_builtin; refine wpList_append_own _ rfl _ _ 35 rfl W.heap.size 39 i0 _ 2 16 Tryz.underlying35 hi hz0 hz1 hz2 rfl (by decide) _ _ _ rfl HOX2.out ⟨w5.heap.size + 1, 0, none⟩ 1 1 (rowOf [⟨ic, jc⟩]) rfl (rowOf_length [⟨ic, jc⟩]) HPC.out (one_rowOf [⟨ic, jc⟩]) ?qd4 ?qd5 (by rw [HSX2.out]; have := HXS.out; omega) ?_)
                      case qd4 => have := HLL.out.1; unfold maxLen; omega
                      case qd5 => have := HLL.out.1; omega
                      intro v' w8 hown hgrow hnil
                      have hk8 := (hgrow.block w5.heap.size (by rw [HSX2.out]; have := HXS.out; omega) (fun e => by have := HOX.out.lt _ e.symm; have := HOLT.out _ e.symm; have := HXS.out; omega)).trans ((heap_alloc_old _ _ HXS.out.2).trans HJX.out)
                      have r3 := lk_cell (i := 3) hk8 rfl
                      have HRW := Lib.hid (show Row w8 W.heap.size v' (l ++ [⟨ic, jc⟩]) from ⟨by rw [rowOf_append, List.length_append]; exact hown, (inR_append _ _).2 ⟨HLL.out.2.1, HIN.out⟩, by have := HLL.out.1; rw [List.length_append, List.length_singleton]; omega⟩)
                      have HBW := Lib.hid ((HB6.out.alloc HB6.out.size (.cells #[.int .i64 ic, .int .i64 jc] 39)).grown hgrow (by rw [HSX2.out]; have := HXS.out; omega) (fun k hk => (HOX.out.lt k hk).1))
                      clear hown hgrow hnil hk8 HOX HOX2
                      go_wp2
                      go_roundg (s.size + 3 - ny)
                      case measure => omega
                      case rel => exact .inl ⟨ny, k, false, l ++ [⟨ic, jc⟩], rfl, rfl, by omega, by omega, by omega, by have := HLL.out.1; rw [List.length_append, List.length_singleton]; omega, by omega, HZZ.out, HRW.out, HBW.out⟩
    ·
     as_aux_lemma =>
      have d5 := hrs.c5
      have hy' : (y1 == 0) = false := by rw [beq_eq_false_iff_ne]; exact hy0
      have HY := Lib.hid (And.intro hy (And.intro hy0 (And.intro hrs hstp)))
      clear hy hy0 hrs hstp c0 c3
      go_wp2_with fail
      go_meet
      exact .inr ⟨(y1, y2), HY.out⟩
  case rest =>
   rcases hcut with ⟨l, p, rfl, hRR, hxp, hpe, hrow, hb⟩ | ⟨⟨y1, y2⟩, hRR, hne, hrs, hstp⟩
   ·
    as_aux_lemma =>
     have HX := Lib.hid (show Lx.bracket clC s chars fold x = .ok (Lx.put x ⟨1, 0, 0, 0, 0, 0, Lx.close clC chars fold bN l⟩ (p + 1)) by rw [HE.out, hRR]; rfl)
     have hrs := HSC.out wc hb
     have d5 := hrs.c5
     have d1 := hrs.c1
     have HNO := Lib.hid (rnorm_row wc W.heap.size _ l chars hrow)
     have HB := Lib.hid hb
     clear hRR hrow hb hrs HE HR c0 c3
     go_upto_if 163 with fail
     refine HNO.out.mono ?_
     rintro e w3 ⟨v3, rfl, hr3, hb3⟩
     have hB3 := HB.out.trans (hb3.mono HB.out.size)
     have HB3 := Lib.hid hB3
     have HR3 := Lib.hid (hr3.lower HB.out.size)
     have HFO := Lib.hid (rfold_row w3 W.heap.size _ _ HR3.out (by have := norm_length l chars; omega))
     have d2 := (HSC.out w3 hB3).c2
     clear hr3 hb3 hB3 HNO d5 d1
     go_upto_if 163 with fail
     go_cut [5] from 5 (fun s5 wc => Row wc W.heap.size s5 (if fold = true then Cls.fold (Cls.norm l chars) else Cls.norm l chars) ∧ Below W.heap.size W wc)
     case first =>
      cases fold with
      | true =>
       go_wp2_with fail
       refine HFO.out.mono ?_
       rintro e w4 ⟨v4, rfl, hr4, hb4⟩
       have HE4 := Lib.hid (And.intro (hr4.lower HB3.out.size) (HB3.out.trans (hb4.mono HB3.out.size)))
       clear hr4 hb4 HFO
       go_wp2_with fail
       go_meet
       exact ⟨HE4.out.1, HE4.out.2⟩
      | false =>
       clear HFO
       go_wp2_with fail
       go_meet
       exact ⟨HR3.out, HB3.out⟩
     case rest =>
      obtain ⟨hr4, hb4⟩ := hcut
      have HR4 := Lib.hid hr4
      have HB4 := Lib.hid hb4
      have HNT := Lib.hid (rnot_row wc W.heap.size _ _ chars hr4)
      have d1 := (HSC.out wc hb4).c1
      obtain ⟨w4, hw4⟩ : ∃ w4, w4 = wc := ⟨_, rfl⟩
      subst wc
      clear hr4 hb4 HFO HR3 d2
      go_upto_if 166 with fail
      go_cut [5] from 5 (fun s5 wc => Row wc W.heap.size s5 (Lx.close clC chars fold bN l) ∧ Below W.heap.size W wc)
      case first =>
       cases bN with
       | true =>
        go_wp2_with fail
        refine HNT.out.mono ?_
        rintro e w5 ⟨v5, rfl, hr5, hb5⟩
        have HE5 := Lib.hid (And.intro (hr5.lower HB4.out.size) (HB4.out.trans (hb5.mono HB4.out.size)))
        clear hr5 hb5 HNT
        go_wp2_with fail
        go_meet
        exact ⟨HE5.out.1, HE5.out.2⟩
       | false =>
        clear HNT
        go_wp2_with fail
        go_meet
        exact ⟨HR4.out, HB4.out⟩
      case rest =>
       obtain ⟨hr5, hb5⟩ := hcut
       obtain ⟨A9, k9, rfl⟩ := hr5.form
       have HPU := Lib.hid (rput_calls W wc B base s chars fold x V HST.out hb5 1 0 0 0 _ _ hr5.1 hr5.2.1 (by have := hr5.2.2; omega) (p + 1) (p + 1 - x.sat) (by omega) (by omega) (by omega))
       have i7 : (p : Int) + 1 - (x.sat : Int) = ((p + 1 - x.sat : Nat) : Int) := by omega
       have hp9 : (p : Int) ≤ 2000 := by omega
       clear hr5 hb5 HNT HR4 HB4 d1
       go_wp2_with fail
       refine HPU.out.mono ?_
       rintro e' w' ⟨rfl, V', h⟩
       have HE6 := Lib.hid h
       clear h
       go_wp2_with fail
       go_end0
       exact RSteps.ok HX.out rfl ⟨V', HE6.out⟩
   ·
    as_aux_lemma =>
     have HX := Lib.hid (show Lx.bracket clC s chars fold x = .error (y1, y2) by rw [HE.out, hRR]; rfl)
     have d5 := hrs.c5
     have hy' : (y1 != 0) = true := by rw [bne_iff_ne]; exact hne
     have HE2 := Lib.hid (And.intro hrs hstp)
     clear hRR hne hrs hstp HE HR c0 c3
     go_wp2_with fail
     refine bodyPost_ret (results_none rfl _ _ _) rfl ?_
     exact RSteps.err HX.out rfl ⟨⟨_, _, HE2.out.1⟩, HE2.out.2⟩
end Go.Proofs.YtamhkdlcoghdbaaGreatDoor.PCls
