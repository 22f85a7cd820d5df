/- Put together (wip/tools/pack.py): QPn, QTSame, QLPJoin. -/
import Derived.Test.YtamhkdlcoghdbaaGreatDoorVMQPi
/- Out of Pn (wip/tools/prune2.py): the declarations alone that the texts of the trees name. -/
namespace Go.Proofs.YtamhkdlcoghdbaaGreatDoor.PCls
open Go.RowKit Go.Shelf Go.Proofs.YtamhkdlcoghdbaaGreatDoorW.PrintWords Go.Proofs.YtamhkdlcoghdbaaGreatDoorW.PrintLast Go.Proofs.YtamhkdlcoghdbaaGreatDoorW.PrintMore
set_option linter.unusedVariables false
set_option linter.unusedSimpArgs false
namespace PT
mutual
/-- how large a part is -/
def psz : PT → Nat
 | .leaf _ => 1
 | .often p _ _ => 1 + psz p
 | .group _ _ c => 1 + psz c
 | .branch l => 1 + pszL l
 | .choice l => 1 + pszL l
def pszL : List PT → Nat
 | [] => 0
 | p :: l => psz p + pszL l
end
theorem psz_pos (p : PT) : 1 ≤ psz p := by cases p <;> simp only [psz] <;> omega
theorem psz_mem {l : List PT} {p : PT} (h : p ∈ l) : psz p ≤ pszL l := by
 induction l with
 | nil => cases h
 | cons a l ih =>
  simp only [pszL]
  rcases List.mem_cons.1 h with rfl | h
  ·omega
  ·have := ih h; omega
theorem pszL_length (l : List PT) : l.length ≤ pszL l := by
 induction l with
 | nil => simp [pszL]
 | cons a l ih => have := psz_pos a; simp only [pszL, List.length_cons]; omega
theorem deep_le (p : PT) : 0 ≤ deep p ∧ deep p ≤ psz p := by
 have hL : ∀ l : List PT, (∀ p, p ∈ l → 0 ≤ deep p ∧ deep p ≤ psz p) → most l ≤ pszL l := by
  intro l
  induction l with
  | nil => intro _; simp [most, pszL]
  | cons a l ih =>
   intro h
   have h1 := h a List.mem_cons_self
   have h2 := ih (fun p hp => h p (List.mem_cons_of_mem _ hp))
   simp only [most, pszL]; omega
 refine ind (P := fun p => 0 ≤ deep p ∧ deep p ≤ psz p) ?_ ?_ ?_ ?_ ?_ p
 ·intro t; simp [deep, psz]
 ·intro p lo hi ih; simp only [deep, psz]; omega
 ·intro n pl c ih; simp only [deep, psz]; omega
 ·intro l ih
  have h1 := hL l ih
  have h2 := most_nonneg l
  simp only [deep, psz]; split <;> omega
 ·intro l ih
  have h1 := hL l ih
  have h2 := most_nonneg l
  simp only [deep, psz]; split <;> omega
theorem most_take (l : List PT) (j : Nat) (p : PT) (h : l[j]? = some p) : most (l.take (j + 1)) = max (most (l.take j)) (deep p) := by
 have hj := (List.getElem?_eq_some_iff.1 h)
 obtain ⟨hj, e⟩ := hj
 rw [List.take_succ_eq_append_getElem hj, e, most_snoc]
end PT
theorem ta_often (v : Value) (lo hi : Int) (w : World) : (Instr.typeAssert (ofV v lo hi) 155 157 true).run Tryz.prog w = .ok (.tuple #[.agg #[v, .int .i64 lo, .int .i64 hi], .bool true]) w := by kernel_rfl
theorem ta_group_often (g : Nat) (w : World) : (Instr.typeAssert (grV g) 155 157 true).run Tryz.prog w = .ok (.tuple #[.agg #[.nilIface, .int .i64 0, .int .i64 0], .bool false]) w := by kernel_rfl
theorem ta_group (g : Nat) (w : World) : (Instr.typeAssert (grV g) 155 99 true).run Tryz.prog w = .ok (.tuple #[.pointer (some ⟨g, 0, none⟩), .bool true]) w := by kernel_rfl
theorem ta_branch_often (g : Nat) (w : World) : (Instr.typeAssert (brV g) 155 157 true).run Tryz.prog w = .ok (.tuple #[.agg #[.nilIface, .int .i64 0, .int .i64 0], .bool false]) w := by kernel_rfl
theorem ta_branch_group (g : Nat) (w : World) : (Instr.typeAssert (brV g) 155 99 true).run Tryz.prog w = .ok (.tuple #[.pointer none, .bool false]) w := by kernel_rfl
theorem ta_branch (g : Nat) (w : World) : (Instr.typeAssert (brV g) 155 150 true).run Tryz.prog w = .ok (.tuple #[.pointer (some ⟨g, 0, none⟩), .bool true]) w := by kernel_rfl
theorem ta_choice_often (g : Nat) (w : World) : (Instr.typeAssert (chV g) 155 157 true).run Tryz.prog w = .ok (.tuple #[.agg #[.nilIface, .int .i64 0, .int .i64 0], .bool false]) w := by kernel_rfl
theorem ta_choice_group (g : Nat) (w : World) : (Instr.typeAssert (chV g) 155 99 true).run Tryz.prog w = .ok (.tuple #[.pointer none, .bool false]) w := by kernel_rfl
theorem ta_choice_branch (g : Nat) (w : World) : (Instr.typeAssert (chV g) 155 150 true).run Tryz.prog w = .ok (.tuple #[.pointer none, .bool false]) w := by kernel_rfl
theorem ta_choice (g : Nat) (w : World) : (Instr.typeAssert (chV g) 155 101 true).run Tryz.prog w = .ok (.tuple #[.pointer (some ⟨g, 2, none⟩), .bool true]) w := by kernel_rfl
theorem ta_leaf_often (cs : List Value) (w : World) : (Instr.typeAssert (lfV cs) 155 157 true).run Tryz.prog w = .ok (.tuple #[.agg #[.nilIface, .int .i64 0, .int .i64 0], .bool false]) w := by kernel_rfl
theorem ta_leaf_group (cs : List Value) (w : World) : (Instr.typeAssert (lfV cs) 155 99 true).run Tryz.prog w = .ok (.tuple #[.pointer none, .bool false]) w := by kernel_rfl
theorem ta_leaf_branch (cs : List Value) (w : World) : (Instr.typeAssert (lfV cs) 155 150 true).run Tryz.prog w = .ok (.tuple #[.pointer none, .bool false]) w := by kernel_rfl
theorem ta_leaf_choice (cs : List Value) (w : World) : (Instr.typeAssert (lfV cs) 155 101 true).run Tryz.prog w = .ok (.tuple #[.pointer none, .bool false]) w := by kernel_rfl
def DeepOk (n0 : Nat) (p : PT) : Prop := ∀ (v : Value) (w : World), n0 ≤ w.heap.size → PIn w (· < n0) p v → Calls Tryz.prog 51 #[v] w fun e w' => e = .returned (.int .i64 p.deep) ∧ Below w.heap.size w w'
set_option maxHeartbeats 4000000 in
set_option maxRecDepth 100000 in
theorem most_calls (n0 : Nat) (l : List PT) (ih : ∀ p, p ∈ l → DeepOk n0 p) (hsz : PT.pszL l < 1000000) (A : Option Addr) (c : Nat) (vs : Nat → Value) (w : World) (hw : n0 ≤ w.heap.size)
  (hr : ∀ j, j < l.length → ∃ g, A = some ⟨g, 0, none⟩ ∧ g < n0 ∧ w.cell? ⟨g, j, none⟩ = some (vs j)) (hc : l.length ≤ c) (hp : ∀ j p, l[j]? = some p → PIn w (· < n0) p (vs j)) :
  Calls Tryz.prog 107 #[.slice A l.length c] w fun e w' => e = .returned (.int .i64 (PT.most l)) ∧ Below w.heap.size w w' := by
 have hll := PT.pszL_length l
 have HH := Lib.hid (And.intro ih (And.intro hr hp))
 have HSZ := Lib.hid hsz
 clear ih hr hp hsz
 go_enter Tryz.func107, Tryz.ntmps107
 go_wp2_with fail
 go_loopg [3, 8] l.length (fun gg s3 s8 wr => ∃ (j : Nat), j ≤ l.length ∧ s8 = .int .i64 j ∧ s3 = .int .i64 (PT.most (l.take j)) ∧ Aside0 (Below w.heap.size w wr) ∧ l.length - j ≤ gg)
 case atStart => exact ⟨0, Nat.zero_le _, rfl, rfl, ⟨Below.refl _ _⟩, by omega⟩
 case round =>
  obtain ⟨j, hj, rfl, rfl, HW, hgg⟩ := hrel
  by_cases hlt : j < l.length
  ·obtain ⟨p, hp⟩ : ∃ p, l[j]? = some p := ⟨_, List.getElem?_eq_getElem hlt⟩
   obtain ⟨g, rfl, hg, hcell⟩ := HH.out.2.1 j hlt
   have hin := HH.out.2.2 j p hp
   have hcr : wr.cell? ⟨g, j, none⟩ = some (vs j) := (HW.out.cell (p := ⟨g, j, none⟩) (by simp only; omega)).trans hcell
   have HD := Lib.hid (HH.out.1 p (List.mem_of_getElem? hp) (vs j) wr (Nat.le_trans hw HW.out.size) (hin.keep (HW.out.mono hw)))
   have hd := PT.deep_le p
   have hps := PT.psz_mem (List.mem_of_getElem? hp)
   have HT := Lib.hid (PT.most_take l j p hp)
   have hm0 := PT.most_nonneg (l.take j)
   obtain ⟨ty, x, hv⟩ := hin.form
   rw [hv] at hcr HD
   obtain ⟨mt, hmt⟩ : ∃ mt, mt = PT.most (l.take j) := ⟨_, rfl⟩
   rw [← hmt] at HT hm0 ⊢
   have hlz : (j : Int) < (l.length : Int) := by omega
   have hj9 : j + 1 < 900000000000000 := by have := HSZ.out; omega
   obtain ⟨dp, hdp⟩ : ∃ dp, dp = p.deep := ⟨_, rfl⟩
   rw [← hdp] at HT HD hd
   clear hmt hdp hp hin hcell hv
   go_wp2_with fail
   refine HD.out.mono ?_
   rintro e w2 ⟨rfl, hb2⟩
   have HB2 := Lib.hid (Below.up HW.out hb2)
   clear hb2 HD hcr
   go_wp2_with fail
   go_roundg (l.length - (j + 1))
   case measure => omega
   case rel => exact ⟨j + 1, hlt, by go_num, by rw [HT.out], ⟨HB2.out⟩, Nat.le_refl _⟩
  ·have hlz : ¬ (j : Int) < (l.length : Int) := by omega
   obtain rfl : j = l.length := by omega
   rw [List.take_length]
   go_wp2_with fail
   go_ret
   exact ⟨rfl, HW.out⟩
set_option maxHeartbeats 4000000 in
set_option maxRecDepth 100000 in
theorem deep_calls (n0 : Nat) (p : PT) : PT.psz p < 1000000 → DeepOk n0 p := by
 refine PT.ind (P := fun p => PT.psz p < 1000000 → DeepOk n0 p) ?_ ?_ ?_ ?_ ?_ p
 ·intro t _ v w hw hin
  cases hin with
  | leaf _ cs h =>
   have t1 := ta_leaf_often cs
   have t2 := ta_leaf_group cs
   have t3 := ta_leaf_branch cs
   have t4 := ta_leaf_choice cs
   unfold lfV at t1 t2 t3 t4 ⊢
   clear h hw
   go_enter Tryz.func51, Tryz.ntmps51
   go_wp2_with fail
   go_ret
   exact ⟨rfl, Below.refl _ _⟩
 ·intro p lo hi ih hs v w hw hin
  cases hin with
  | often _ _ _ u h =>
   have hd := PT.deep_le p
   simp only [PT.psz] at hs
   obtain ⟨ty, x, rfl⟩ := h.form
   have t1 := ta_often (.iface ty x) lo hi
   have hb := (Below.refl w.heap.size w).alloc (Nat.le_refl _) (.cells #[.iface ty x, .int .i64 lo, .int .i64 hi] 157)
   have HD := Lib.hid (ih (by omega) _ (w.alloc (.cells #[.iface ty x, .int .i64 lo, .int .i64 hi] 157)) (Nat.le_trans hw hb.size) (h.keep (hb.mono hw)))
   have HB := Lib.hid hb
   have HE := Lib.hid (show (PT.often p lo hi).deep = 1 + p.deep by simp only [PT.deep])
   obtain ⟨dp, hdp⟩ : ∃ dp, dp = p.deep := ⟨_, rfl⟩
   rw [← hdp] at HD hd HE
   unfold ofV at t1 ⊢
   clear h hb hw ih hdp
   go_enter Tryz.func51, Tryz.ntmps51
   go_wp2_with fail
   refine HD.out.mono ?_
   rintro e w2 ⟨rfl, hb2⟩
   have HB2 := Lib.hid (Below.up HB.out hb2)
   clear hb2 HD t1
   go_wp2_with fail
   go_ret
   exact ⟨by rw [HE.out]; rfl, HB2.out⟩
 ·intro n pl ch ih hs v w hw hin
  cases hin with
  | group _ _ _ g hg h0 h1 h =>
   have hd := PT.deep_le ch
   simp only [PT.psz] at hs
   have t1 := ta_group_often g
   have t2 := ta_group g
   have HD := Lib.hid (ih (by omega) _ w hw h)
   have HE := Lib.hid (show (PT.group n pl ch).deep = 1 + ch.deep by simp only [PT.deep])
   obtain ⟨dp, hdp⟩ : ∃ dp, dp = ch.deep := ⟨_, rfl⟩
   rw [← hdp] at HD hd HE
   unfold grV at t1 t2 ⊢
   unfold chV at HD
   clear h hw ih hdp h0 h1
   go_enter Tryz.func51, Tryz.ntmps51
   go_wp2_with fail
   refine HD.out.mono ?_
   rintro e w2 ⟨rfl, hb2⟩
   have HB2 := Lib.hid hb2
   clear hb2 HD t1 t2
   go_wp2_with fail
   go_ret
   exact ⟨by rw [HE.out]; rfl, HB2.out⟩
 ·intro l ih hs v w hw hin
  simp only [PT.psz] at hs
  have hll := PT.pszL_length l
  cases hin with
  | branch _ b A c vs hb h0 hc hr h =>
   have t1 := ta_branch_often b
   have t2 := ta_branch_group b
   have t3 := ta_branch b
   have hm0 := PT.most_nonneg l
   have hml := (PT.deep_le (.branch l)).2
   have HM := Lib.hid (most_calls n0 l (fun p hp => ih p hp (by have := PT.psz_mem hp; omega)) (by omega) A c vs w hw hr hc h)
   have hm9 : PT.most l ≤ 1000000 := by
    simp only [PT.deep, PT.psz] at hml
    split at hml <;> omega
   have HE := Lib.hid (show (PT.branch l).deep = if 1 < l.length then 1 + PT.most l else max (PT.most l) 1 by simp only [PT.deep])
   have lb : b < w.heap.size := Nat.lt_of_lt_of_le hb hw
   obtain ⟨mt, hmt⟩ : ∃ mt, mt = PT.most l := ⟨_, rfl⟩
   rw [← hmt] at HM HE hm0 hm9
   have hf : ∀ args w, (callFunc 107 args).run Tryz.prog w = .ok (.enter 107 args) w := enters_of Tryz.func107 (by kernel_rfl) rfl
   unfold brV at t1 t2 t3 ⊢
   clear h hr ih hmt hml hw hb
   have HLB := Lib.hid lb
   have H0 := Lib.hid h0
   obtain ⟨N, hN⟩ : ∃ N, N = l.length := ⟨_, rfl⟩
   rw [← hN] at HM HE h0 H0 hll hc
   by_cases h1 : 1 < N
   ·have h1' : (1 : Int) < (N : Int) := by omega
    have HX := Lib.hid (HE.out.trans (if_pos h1))
    clear hN
    go_enter Tryz.func51, Tryz.ntmps51
    go_wp2_with fail
    refine HM.out.mono ?_
    rintro e w2 ⟨rfl, hb2⟩
    have h02 := (hb2.cell (p := ⟨b, 0, none⟩) HLB.out).trans H0.out
    have HB2 := Lib.hid hb2
    clear hb2 HM t1 t2 t3 h0 lb
    go_wp2_with fail
    go_ret
    exact ⟨by rw [HX.out]; rfl, HB2.out⟩
   ·have h1' : ¬ (1 : Int) < (N : Int) := by omega
    have HX := Lib.hid (HE.out.trans (if_neg h1))
    clear hN
    go_enter Tryz.func51, Tryz.ntmps51
    go_wp2_with fail
    refine HM.out.mono ?_
    rintro e w2 ⟨rfl, hb2⟩
    have h02 := (hb2.cell (p := ⟨b, 0, none⟩) HLB.out).trans H0.out
    have HB2 := Lib.hid hb2
    clear hb2 HM t1 t2 t3 h0 lb
    go_wp2_with fail
    go_ret
    exact ⟨by rw [HX.out]; rfl, HB2.out⟩
 ·intro l ih hs v w hw hin
  simp only [PT.psz] at hs
  have hll := PT.pszL_length l
  cases hin with
  | choice _ b A c vs hb h0 hc hr h =>
   have t1 := ta_choice_often b
   have t2 := ta_choice_group b
   have t3 := ta_choice_branch b
   have t4 := ta_choice b
   have hm0 := PT.most_nonneg l
   have hml := (PT.deep_le (.choice l)).2
   have HM := Lib.hid (most_calls n0 l (fun p hp => ih p hp (by have := PT.psz_mem hp; omega)) (by omega) A c vs w hw hr hc h)
   have hm9 : PT.most l ≤ 1000000 := by
    simp only [PT.deep, PT.psz] at hml
    split at hml <;> omega
   have HE := Lib.hid (show (PT.choice l).deep = if 1 < l.length then 1 + PT.most l else PT.most l by simp only [PT.deep])
   have lb : b < w.heap.size := Nat.lt_of_lt_of_le hb hw
   obtain ⟨mt, hmt⟩ : ∃ mt, mt = PT.most l := ⟨_, rfl⟩
   rw [← hmt] at HM HE hm0 hm9
   have hf : ∀ args w, (callFunc 107 args).run Tryz.prog w = .ok (.enter 107 args) w := enters_of Tryz.func107 (by kernel_rfl) rfl
   unfold chV at t1 t2 t3 t4 ⊢
   clear h hr ih hmt hml hw hb
   have HLB := Lib.hid lb
   have H0 := Lib.hid h0
   obtain ⟨N, hN⟩ : ∃ N, N = l.length := ⟨_, rfl⟩
   rw [← hN] at HM HE h0 H0 hll hc
   by_cases h1 : 1 < N
   ·have h1' : (1 : Int) < (N : Int) := by omega
    have HX := Lib.hid (HE.out.trans (if_pos h1))
    clear hN
    go_enter Tryz.func51, Tryz.ntmps51
    go_wp2_with fail
    refine HM.out.mono ?_
    rintro e w2 ⟨rfl, hb2⟩
    have h02 := (hb2.cell (p := ⟨b, 2, none⟩) HLB.out).trans H0.out
    have HB2 := Lib.hid hb2
    clear hb2 HM t1 t2 t3 t4 h0 lb
    go_wp2_with fail
    go_ret
    exact ⟨by rw [HX.out]; rfl, HB2.out⟩
   ·have h1' : ¬ (1 : Int) < (N : Int) := by omega
    have HX := Lib.hid (HE.out.trans (if_neg h1))
    clear hN
    go_enter Tryz.func51, Tryz.ntmps51
    go_wp2_with fail
    refine HM.out.mono ?_
    rintro e w2 ⟨rfl, hb2⟩
    have h02 := (hb2.cell (p := ⟨b, 2, none⟩) HLB.out).trans H0.out
    have HB2 := Lib.hid hb2
    clear hb2 HM t1 t2 t3 t4 h0 lb
    go_wp2_with fail
    go_ret
    exact ⟨by rw [HX.out]; rfl, HB2.out⟩
end Go.Proofs.YtamhkdlcoghdbaaGreatDoor.PCls
/- Out of TSame (wip/tools/prune2.py): the declarations alone that the texts of the trees name. -/
namespace Go.Proofs.YtamhkdlcoghdbaaGreatDoor.PCls
open Go.RowKit Go.Proofs.YtamhkdlcoghdbaaGreatDoorW.PrintWords Go.Proofs.YtamhkdlcoghdbaaGreatDoorW.PrintLast Go.Proofs.YtamhkdlcoghdbaaGreatDoorW.PrintMore
set_option linter.unusedVariables false
set_option linter.unusedSimpArgs false
theorem below_drawn3 {B : Nat} {w0 w w' : World} (h : Below B w0 w) (hd : Drawn0 w w') : Below B w0 w' := by
 obtain ⟨m, rfl⟩ := hd.out
 exact wN h m
theorem sameL_length : ∀ (l l' : List NT), NT.sameL l l' = true → l.length = l'.length
 | [], [], _ => rfl
 | [], _ :: _, h => by simp [NT.sameL] at h
 | _ :: _, [], h => by simp [NT.sameL] at h
 | a :: l, b :: l', h => by
  simp only [NT.sameL, Bool.and_eq_true] at h
  rw [List.length_cons, List.length_cons, sameL_length l l' h.2]
set_option maxHeartbeats 4000000 in
set_option maxRecDepth 100000 in
theorem equalFunc_calls (n0 : Nat) (w : World) (hw : n0 ≤ w.heap.size) (A B : Option Addr) (la ca lb cb : Nat) (l l' : List NT) (hla : l.length = la) (hlb : l'.length = lb) (hb : la < 1099511627776)
  (h1 : ∀ j t, l[j]? = some t → ∃ ad cs, A = some ad ∧ ad.block < n0 ∧ NIn w (· < n0) t cs ∧ ∀ i u, cs[i]? = some u → w.cell? (ad.add (j * 6 + i)) = some u)
  (h2 : ∀ j t, l'[j]? = some t → ∃ ad cs, B = some ad ∧ ad.block < n0 ∧ NIn w (· < n0) t cs ∧ ∀ i u, cs[i]? = some u → w.cell? (ad.add (j * 6 + i)) = some u)
  (ih : ∀ t, t ∈ l → ∀ (t' : NT) (cs ds : List Value) (W : World), n0 ≤ W.heap.size → NIn W (· < n0) t cs → NIn W (· < n0) t' ds → Calls Tryz.prog 57 #[.agg cs.toArray, .agg ds.toArray] W fun e w' => e = .returned (.bool (NT.same t t')) ∧ Below W.heap.size W w') :
  Calls Tryz.prog 116 #[.slice A la ca, .slice B lb cb, .func (.func 57) #[] #[]] w fun e w' => e = .returned (.bool (NT.sameL l l')) ∧ Below w.heap.size w w' := by
 obtain ⟨R, hR⟩ : ∃ R, R = NT.sameL l l' := ⟨_, rfl⟩
 have HR := Lib.hid hR
 have H1 := Lib.hid h1
 have H2 := Lib.hid h2
 have HI := Lib.hid ih
 have HLA := Lib.hid hla
 have HLB := Lib.hid hlb
 have HW := Lib.hid hw
 have HB := Lib.hid hb
 rw [← hR]
 clear hR h1 h2 ih hw hb
 by_cases hne : la = lb
 ·subst hne
  clear hla hlb
  go_enter Tryz.func116, Tryz.ntmps116
  go_wp2_with fail
  go_loopg [17] la (fun gg s17 wr => ∃ (j : Nat), s17 = .int .i64 j ∧ j ≤ la ∧ la - j ≤ gg ∧ Aside0 (Below w.heap.size w wr) ∧ Aside0 (NT.sameL (l.drop j) (l'.drop j) = R))
  case atStart => exact ⟨0, rfl, by omega, by omega, ⟨Below.refl _ _⟩, ⟨by rw [HR.out]; rfl⟩⟩
  case round =>
   obtain ⟨j, rfl, hj, hgg, HBj, HSj⟩ := hrel
   by_cases hlt : j < la
   ·obtain ⟨t, ht⟩ : ∃ t, l[j]? = some t := ⟨_, List.getElem?_eq_getElem (by have := HLA.out; omega)⟩
    obtain ⟨t', ht'⟩ : ∃ t', l'[j]? = some t' := ⟨_, List.getElem?_eq_getElem (by have := HLB.out; omega)⟩
    obtain ⟨ad, cs, rfl, hP, hN, hc⟩ := H1.out j t ht
    obtain ⟨bd, ds, rfl, hP', hN', hc'⟩ := H2.out j t' ht'
    have hmv : ∀ b, b < n0 → wr.heap[b]? = w.heap[b]? := fun b hb => HBj.out.block b (Nat.lt_of_lt_of_le hb HW.out)
    have hswr : n0 ≤ wr.heap.size := Nat.le_trans HW.out HBj.out.size
    have hNr := hN.move hmv
    have hNr' := hN'.move hmv
    have hcr : ∀ i u, cs[i]? = some u → wr.cell? (ad.add (j * 6 + i)) = some u := fun i u hu => by
     rw [World.cell?_of_block (w := w) (a := ad.add (j * 6 + i)) (by rw [add_block]; exact hmv _ hP)]; exact hc i u hu
    have hcr' : ∀ i u, ds[i]? = some u → wr.cell? (bd.add (j * 6 + i)) = some u := fun i u hu => by
     rw [World.cell?_of_block (w := w) (a := bd.add (j * 6 + i)) (by rw [add_block]; exact hmv _ hP')]; exact hc' i u hu
    have hdrop : NT.sameL (l.drop j) (l'.drop j) = (NT.same t t' && NT.sameL (l.drop (j + 1)) (l'.drop (j + 1))) := by
     obtain ⟨g1, e1⟩ := List.getElem?_eq_some_iff.1 ht
     obtain ⟨g2, e2⟩ := List.getElem?_eq_some_iff.1 ht'
     rw [List.drop_eq_getElem_cons g1, List.drop_eq_getElem_cons g2, e1, e2]
     rfl
    have hcall : ∀ W, Below wr.heap.size wr W → Calls Tryz.prog 57 #[.agg cs.toArray, .agg ds.toArray] W fun e w' => e = .returned (.bool (NT.same t t')) ∧ Below W.heap.size W w' := fun W hW =>
     HI.out t (List.mem_of_getElem? ht) t' cs ds W (Nat.le_trans hswr hW.size) (hNr.move fun b hb => hW.block b (Nat.lt_of_lt_of_le hb hswr)) (hNr'.move fun b hb => hW.block b (Nat.lt_of_lt_of_le hb hswr))
    cases hN with
    | mk k m lo hi r kids ar ak cr ck csk _ _ _ _ _ _ _ _ _ =>
     rename_i q1 q2 q3 q4 q5 q6 q7 q8 q9
     clear q1 q2 q3 q4 q5 q6 q7 q8 q9
     cases hN' with
     | mk k' m' lo' hi' r' kids' ar' ak' cr' ck' csk' _ _ _ _ _ _ _ _ _ =>
      rename_i q1 q2 q3 q4 q5 q6 q7 q8 q9
      clear q1 q2 q3 q4 q5 q6 q7 q8 q9
      have x0 := hcr 0 _ rfl
      rw [Nat.add_zero] at x0
      have x1 := cell_at hcr 1 (by decide) rfl
      have x2 := cell_at hcr 2 (by decide) rfl
      have x3 := cell_at hcr 3 (by decide) rfl
      have x4 := cell_at hcr 4 (by decide) rfl
      have x5 := cell_at hcr 5 (by decide) rfl
      have z0 := hcr' 0 _ rfl
      rw [Nat.add_zero] at z0
      have z1 := cell_at hcr' 1 (by decide) rfl
      have z2 := cell_at hcr' 2 (by decide) rfl
      have z3 := cell_at hcr' 3 (by decide) rfl
      have z4 := cell_at hcr' 4 (by decide) rfl
      have z5 := cell_at hcr' 5 (by decide) rfl
      have Z : ∀ o, (wr.alloc o).cell? (bd.add (j * 6)) = some (.int .i64 k') := fun o => Lib.cell?_alloc_some _ z0
      have Z1 : ∀ o, (wr.alloc o).cell? ⟨(bd.add (j * 6)).block, (bd.add (j * 6)).off + 1, none⟩ = some (.int .i64 m') := fun o => Lib.cell?_alloc_some _ z1
      have Z2 : ∀ o, (wr.alloc o).cell? ⟨(bd.add (j * 6)).block, (bd.add (j * 6)).off + 2, none⟩ = some (.int .i64 lo') := fun o => Lib.cell?_alloc_some _ z2
      have Z3 : ∀ o, (wr.alloc o).cell? ⟨(bd.add (j * 6)).block, (bd.add (j * 6)).off + 3, none⟩ = some (.int .i64 hi') := fun o => Lib.cell?_alloc_some _ z3
      have Z4 : ∀ o, (wr.alloc o).cell? ⟨(bd.add (j * 6)).block, (bd.add (j * 6)).off + 4, none⟩ = some (.slice ar' r'.length cr') := fun o => Lib.cell?_alloc_some _ z4
      have Z5 : ∀ o, (wr.alloc o).cell? ⟨(bd.add (j * 6)).block, (bd.add (j * 6)).off + 5, none⟩ = some (.slice ak' kids'.length ck') := fun o => Lib.cell?_alloc_some _ z5
      have hlt' : (j : Int) < (la : Int) := by omega
      have HCALL := Lib.hid hcall
      have HD := Lib.hid hdrop
      clear hcall hdrop hcr hcr' hc hc' hNr hNr' hmv ht ht' hP hP' z0 z1 z2 z3 z4 z5
      go_wp2_with fail
      refine (HCALL.out _ (((Below.refl _ wr).alloc (Nat.le_refl _) _).alloc (by simp) _)).mono ?_
      rintro e w4 ⟨rfl, hB4⟩
      have hB5 : Below w.heap.size w w4 := HBj.out.trans ((((Below.refl _ wr).alloc (Nat.le_refl _) _).alloc (by simp) _).trans (hB4.mono (by simp; omega)) |>.mono HBj.out.size)
      have HB5 := Lib.hid hB5
      clear hB4 hB5
      cases hs : NT.same (.mk k m lo hi r kids) (.mk k' m' lo' hi' r' kids')
      ·have HSS := Lib.hid hs
       clear hs
       go_wp2
       go_ret
       exact ⟨by rw [← HSj.out, HD.out, HSS.out]; rfl, HB5.out⟩
      ·have HSS := Lib.hid hs
       clear hs
       go_wp2
       go_roundg (la - (j + 1))
       case measure => omega
       case rel => exact ⟨j + 1, congrArg (Value.int .i64) (by first | (push_cast; rfl) | (rw [w64_lit _ (by omega) (by have := HB.out; omega)]; push_cast; rfl)), by omega, Nat.le_refl _, ⟨HB5.out⟩, ⟨by rw [← HSj.out, HD.out, HSS.out]; rfl⟩⟩
   ·obtain rfl : j = la := by omega
    have hlt' : ¬ (j : Int) < (j : Int) := by omega
    go_wp2
    go_ret
    refine ⟨?_, HBj.out⟩
    rw [← HSj.out, List.drop_eq_nil_of_le (by have := HLA.out; omega), List.drop_eq_nil_of_le (by have := HLB.out; omega)]
    rfl
 ·have hne' : ((la : Int) == (lb : Int)) = false := beq_eq_false_iff_ne.2 (by omega)
  have hr : R = false := by
   rw [HR.out]
   cases h : NT.sameL l l'
   ·rfl
   ·exact absurd (sameL_length l l' h) (by have := HLA.out; have := HLB.out; omega)
  rw [hr]
  clear hr hne hla hlb
  go_enter Tryz.func116, Tryz.ntmps116
  go_wp2
  go_ret
  exact ⟨rfl, Below.refl _ _⟩
set_option maxHeartbeats 4000000 in
set_option maxRecDepth 100000 in
theorem same_calls (n0 : Nat) : ∀ (N : Nat) (a b : NT) (cs ds : List Value) (w : World), a.nodes ≤ N → n0 ≤ w.heap.size → NIn w (· < n0) a cs → NIn w (· < n0) b ds →
  Calls Tryz.prog 57 #[.agg cs.toArray, .agg ds.toArray] w fun e w' => e = .returned (.bool (NT.same a b)) ∧ Below w.heap.size w w' := by
 intro N
 induction N with
 | zero => intro a b cs ds w h; have := a.nodes_pos; omega
 | succ N ih =>
  intro a b cs ds w hN hw hA hB
  have hA0 := hA
  have hB0 := hB
  obtain ⟨S, hS⟩ : ∃ S, S = NT.same a b := ⟨_, rfl⟩
  have HS := Lib.hid hS
  rw [← hS]
  clear hS
  cases hA with
  | mk k m lo hi r kids ar ak cr ck csk hr hrb hcr hrl hin hck hkl hk ha =>
   cases hB with
   | mk k' m' lo' hi' r' kids' ar' ak' cr' ck' csk' hr' hrb' hcr' hrl' hin' hck' hkl' hk' ha' =>
    have HA := Lib.hid hA0
    have HB := Lib.hid hB0
    have HN := Lib.hid hN
    have HW := Lib.hid hw
    have HI := Lib.hid ih
    have HC := Lib.hid (And.intro hr (And.intro hrb (And.intro hcr hrl)))
    have HD := Lib.hid (And.intro hr' (And.intro hrb' (And.intro hcr' hrl')))
    have HK := Lib.hid hkl
    clear hA0 hB0 hN hw ih hr hrb hcr hrl hin hck hkl hk ha hr' hrb' hcr' hrl' hin' hck' hkl' hk' ha'
    show Calls Tryz.prog 57 #[.agg #[.int .i64 k, .int .i64 m, .int .i64 lo, .int .i64 hi, .slice ar r.length cr, .slice ak kids.length ck], .agg #[.int .i64 k', .int .i64 m', .int .i64 lo', .int .i64 hi', .slice ar' r'.length cr', .slice ak' kids'.length ck']] w _
    by_cases h1 : k = k'
    ·subst h1
     by_cases h2 : m = m'
     ·subst h2
      by_cases h3 : lo = lo'
      ·subst h3
       by_cases h4 : hi = hi'
       ·subst h4
        obtain ⟨W2, hW2⟩ : ∃ W2, W2 = ((w.alloc (.cells #[.int .i64 k, .int .i64 m, .int .i64 lo, .int .i64 hi, .slice ar r.length cr, .slice ak kids.length ck] 43)).alloc (.cells #[.int .i64 k, .int .i64 m, .int .i64 lo, .int .i64 hi, .slice ar' r'.length cr', .slice ak' kids'.length ck'] 43)) := ⟨_, rfl⟩
        have hb2 : Below w.heap.size w W2 := by rw [hW2]; exact ((Below.refl _ w).alloc (Nat.le_refl _) _).alloc (by simp) _
        have hn1 : W2.heap[w.heap.size]? = some (.cells #[.int .i64 k, .int .i64 m, .int .i64 lo, .int .i64 hi, .slice ar r.length cr, .slice ak kids.length ck] 43 (0, 0)) := by rw [hW2]; exact (Below.heap_alloc _ _ _ (by simp)).trans (World.alloc_heap_new w _)
        have hn2 : W2.heap[w.heap.size + 1]? = some (.cells #[.int .i64 k, .int .i64 m, .int .i64 lo, .int .i64 hi, .slice ar' r'.length cr', .slice ak' kids'.length ck'] 43 (0, 0)) := by
         have := World.alloc_heap_new (w.alloc (.cells #[.int .i64 k, .int .i64 m, .int .i64 lo, .int .i64 hi, .slice ar r.length cr, .slice ak kids.length ck] 43)) (.cells #[.int .i64 k, .int .i64 m, .int .i64 lo, .int .i64 hi, .slice ar' r'.length cr', .slice ak' kids'.length ck'] 43)
         rw [World.size_alloc] at this
         rw [hW2]; exact this
        obtain ⟨kk, hkk⟩ := (equal_ends r r' (by have := HC.out.2.2.2; omega)).get
        have mv : ∀ b, b < n0 → W2.heap[b]? = w.heap[b]? := fun b hb => hb2.block b (Nat.lt_of_lt_of_le hb HW.out)
        have hcall := api_Range_77.calls kk ar cr r ar' cr' r' _ W2 (C_move (P := (· < n0)) HC.out.1 HC.out.2.1 mv) HC.out.2.2.1 (C_move (P := (· < n0)) HD.out.1 HD.out.2.1 mv) HD.out.2.2.1 hkk
        have HB2 := Lib.hid hb2
        have HN1 := Lib.hid hn1
        have HN2 := Lib.hid hn2
        have HCALL := Lib.hid hcall
        have HSZ := Lib.hid (show w.heap.size + 2 ≤ W2.heap.size by rw [hW2]; simp)
        clear hb2 hn1 hn2 hcall hkk mv
        rw [hW2] at HCALL
        by_cases h5 : r = r'
        ·subst h5
         rw [decide_eq_true rfl] at HCALL
         go_enter Tryz.func57, Tryz.ntmps57
         go_wp2_with fail
         refine HCALL.out.mono ?_
         rintro e w3 ⟨rfl, hD⟩
         rw [← hW2] at hD
         have hb3 := below_drawn3 (Below.refl W2.heap.size W2) hD
         have c5 := cell_heap (i := 5) ((hb3.block _ (by have := HSZ.out; omega)).trans HN1.out) rfl
         have d5 := cell_heap (i := 5) ((hb3.block _ (by have := HSZ.out; omega)).trans HN2.out) rfl
         have HB3 := Lib.hid hb3
         have hb4 : Below w.heap.size w w3 := HB2.out.trans (HB3.out.mono HB2.out.size)
         have mv : ∀ b, b < n0 → w3.heap[b]? = w.heap[b]? := fun b hb => hb4.block b (Nat.lt_of_lt_of_le hb HW.out)
         have hef := equalFunc_calls n0 w3 (Nat.le_trans HW.out hb4.size) ak ak' kids.length ck kids'.length ck' kids kids' rfl rfl HK.out (fun j t ht => (HA.out.move mv).kid ht) (fun j t ht => (HB.out.move mv).kid ht)
          (fun t ht t' cs ds W hW h1 h2 => HI.out t t' cs ds W (by have := NT.nodes_kid ht; have := HN.out; simp only [NT.nodes] at this; omega) hW h1 h2)
         have HB4 := Lib.hid hb4
         have HEF := Lib.hid hef
         clear hD hb3 hb4 hef mv hW2
         go_wp2_with fail
         refine HEF.out.mono ?_
         rintro e w5 ⟨rfl, hB5⟩
         have HB5 := Lib.hid hB5
         clear hB5
         go_wp2
         go_ret
         exact ⟨by rw [HS.out]; simp [NT.same], HB4.out.trans (HB5.out.mono HB4.out.size)⟩
        ·have hs : S = false := by rw [HS.out]; simp [NT.same, h5]
         rw [decide_eq_false h5] at HCALL
         rw [hs]
         clear hs h5
         go_enter Tryz.func57, Tryz.ntmps57
         go_wp2_with fail
         refine HCALL.out.mono ?_
         rintro e w3 ⟨rfl, hD⟩
         rw [← hW2] at hD
         have HB3 := Lib.hid (below_drawn3 (Below.refl W2.heap.size W2) hD)
         clear hD hW2
         go_wp2
         go_ret
         exact ⟨rfl, HB2.out.trans (HB3.out.mono HB2.out.size)⟩
       ·have hs : S = false := by rw [HS.out]; simp [NT.same, h4]
        have h42 : (hi == hi') = false := beq_eq_false_iff_ne.2 h4
        rw [hs]; clear hs h4
        go_enter Tryz.func57, Tryz.ntmps57
        go_wp2
        go_ret
        exact ⟨rfl, ((Below.refl _ w).alloc (Nat.le_refl _) _).alloc (by simp) _⟩
      ·have hs : S = false := by rw [HS.out]; simp [NT.same, h3]
       have h32 : (lo == lo') = false := beq_eq_false_iff_ne.2 h3
       rw [hs]; clear hs h3
       go_enter Tryz.func57, Tryz.ntmps57
       go_wp2
       go_ret
       exact ⟨rfl, ((Below.refl _ w).alloc (Nat.le_refl _) _).alloc (by simp) _⟩
     ·have hs : S = false := by rw [HS.out]; simp [NT.same, h2]
      have h22 : (m == m') = false := beq_eq_false_iff_ne.2 h2
      rw [hs]; clear hs h2
      go_enter Tryz.func57, Tryz.ntmps57
      go_wp2
      go_ret
      exact ⟨rfl, ((Below.refl _ w).alloc (Nat.le_refl _) _).alloc (by simp) _⟩
    ·have hs : S = false := by rw [HS.out]; simp [NT.same, h1]
     have h12 : (k == k') = false := beq_eq_false_iff_ne.2 h1
     rw [hs]; clear hs h1
     go_enter Tryz.func57, Tryz.ntmps57
     go_wp2
     go_ret
     exact ⟨rfl, ((Below.refl _ w).alloc (Nat.le_refl _) _).alloc (by simp) _⟩
/-- Same -/
def sameT (a b : NT) : Bool := decide (a.nodes ≤ 2000) && (decide (b.nodes ≤ 2000) && NT.same a b)
set_option maxHeartbeats 4000000 in
set_option maxRecDepth 100000 in
theorem Same_calls (n0 : Nat) (a b : NT) (cs ds : List Value) (w : World) (hw : n0 ≤ w.heap.size) (hA : NIn w (· < n0) a cs) (hB : NIn w (· < n0) b ds) (ha : a.nodes < 4611686018427387903) (hb : b.nodes < 4611686018427387903) :
  Calls Tryz.prog 25 #[.agg cs.toArray, .agg ds.toArray] w fun e w' => e = .returned (.bool (sameT a b)) ∧ Below w.heap.size w w' := by
 obtain ⟨ca, hca⟩ : ∃ ca, ca = countT a := ⟨_, rfl⟩
 obtain ⟨cb, hcb⟩ : ∃ cb, cb = countT b := ⟨_, rfl⟩
 have hmv : ∀ {W : World}, Below w.heap.size w W → (∀ b, b < n0 → W.heap[b]? = w.heap[b]?) := fun h b hb => h.block b (Nat.lt_of_lt_of_le hb hw)
 have HCA := Lib.hid (fun (W : World) (h : Below w.heap.size w W) => count_calls a cs W ((hA.move (hmv h)).mono (fun b hb => Nat.lt_of_lt_of_le hb (Nat.le_trans hw h.size))) ha)
 have HCB := Lib.hid (fun (W : World) (h : Below w.heap.size w W) => count_calls b ds W ((hB.move (hmv h)).mono (fun b hb => Nat.lt_of_lt_of_le hb (Nat.le_trans hw h.size))) hb)
 have HSC := Lib.hid (fun (W : World) (h : Below w.heap.size w W) => same_calls n0 a.nodes a b cs ds W (Nat.le_refl _) (Nat.le_trans hw h.size) (hA.move (hmv h)) (hB.move (hmv h)))
 rw [← hca] at HCA
 rw [← hcb] at HCB
 obtain ⟨S, hS⟩ : ∃ S, S = sameT a b := ⟨_, rfl⟩
 have HS := Lib.hid hS
 have HCA2 := Lib.hid hca
 have HCB2 := Lib.hid hcb
 rw [← hS]
 clear hca hcb hS ha hb
 cases hA with
 | mk k m lo hi r kids ar ak cr ck csk _ _ _ _ _ _ _ _ _ =>
  rename_i q1 q2 q3 q4 q5 q6 q7 q8 q9
  clear q1 q2 q3 q4 q5 q6 q7 q8 q9
  cases hB with
  | mk k' m' lo' hi' r' kids' ar' ak' cr' ck' csk' _ _ _ _ _ _ _ _ _ =>
   rename_i q1 q2 q3 q4 q5 q6 q7 q8 q9
   clear q1 q2 q3 q4 q5 q6 q7 q8 q9
   show Calls Tryz.prog 25 #[.agg #[.int .i64 k, .int .i64 m, .int .i64 lo, .int .i64 hi, .slice ar r.length cr, .slice ak kids.length ck], .agg #[.int .i64 k', .int .i64 m', .int .i64 lo', .int .i64 hi', .slice ar' r'.length cr', .slice ak' kids'.length ck']] w _
   obtain ⟨W2, hW2⟩ : ∃ W2, W2 = ((w.alloc (.cells #[.int .i64 k, .int .i64 m, .int .i64 lo, .int .i64 hi, .slice ar r.length cr, .slice ak kids.length ck] 43)).alloc (.cells #[.int .i64 k', .int .i64 m', .int .i64 lo', .int .i64 hi', .slice ar' r'.length cr', .slice ak' kids'.length ck'] 43)) := ⟨_, rfl⟩
   have hb2 : Below w.heap.size w W2 := by rw [hW2]; exact ((Below.refl _ w).alloc (Nat.le_refl _) _).alloc (by simp) _
   have hn1 : W2.heap[w.heap.size]? = some (.cells #[.int .i64 k, .int .i64 m, .int .i64 lo, .int .i64 hi, .slice ar r.length cr, .slice ak kids.length ck] 43 (0, 0)) := by rw [hW2]; exact (Below.heap_alloc _ _ _ (by simp)).trans (World.alloc_heap_new w _)
   have hn2 : W2.heap[w.heap.size + 1]? = some (.cells #[.int .i64 k', .int .i64 m', .int .i64 lo', .int .i64 hi', .slice ar' r'.length cr', .slice ak' kids'.length ck'] 43 (0, 0)) := by
    have := World.alloc_heap_new (w.alloc (.cells #[.int .i64 k, .int .i64 m, .int .i64 lo, .int .i64 hi, .slice ar r.length cr, .slice ak kids.length ck] 43)) (.cells #[.int .i64 k', .int .i64 m', .int .i64 lo', .int .i64 hi', .slice ar' r'.length cr', .slice ak' kids'.length ck'] 43)
    rw [World.size_alloc] at this
    rw [hW2]; exact this
   have HB2 := Lib.hid hb2
   have HN1 := Lib.hid hn1
   have HN2 := Lib.hid hn2
   have HSZ := Lib.hid (show w.heap.size + 2 ≤ W2.heap.size by rw [hW2]; simp)
   have hc1 := HCA.out W2 hb2
   rw [hW2] at hc1
   have HC1 := Lib.hid hc1
   clear hb2 hn1 hn2 hc1 hw hmv
   by_cases h1 : ca ≤ 2000
   ·go_enter Tryz.func25, Tryz.ntmps25
    go_wp2_with fail
    refine HC1.out.mono ?_
    rintro e w3 ⟨rfl, hB3⟩
    rw [← hW2] at hB3
    have HB3 := Lib.hid (HB2.out.trans (hB3.mono HB2.out.size))
    have hm2 := (hB3.block _ (by have := HSZ.out; omega)).trans HN2.out
    have hm1 := (hB3.block _ (by have := HSZ.out; omega)).trans HN1.out
    have HM1 := Lib.hid hm1
    have HM2 := Lib.hid hm2
    have d0 := cell_heap (i := 0) hm2 rfl
    have d1 := cell_heap (i := 1) hm2 rfl
    have d2 := cell_heap (i := 2) hm2 rfl
    have d3 := cell_heap (i := 3) hm2 rfl
    have d4 := cell_heap (i := 4) hm2 rfl
    have d5 := cell_heap (i := 5) hm2 rfl
    have HSZ3 := Lib.hid (Nat.le_trans HSZ.out hB3.size)
    clear hB3 hm1 hm2 hW2
    go_wp2_with fail
    refine (HCB.out w3 HB3.out).mono ?_
    rintro e w4 ⟨rfl, hB4⟩
    have HB4 := Lib.hid (HB3.out.trans (hB4.mono HB3.out.size))
    have hm1 := (hB4.block _ (by have := HSZ3.out; omega)).trans HM1.out
    have hm2 := (hB4.block _ (by have := HSZ3.out; omega)).trans HM2.out
    clear d0 d1 d2 d3 d4 d5 hB4
    by_cases h2 : cb ≤ 2000
    ·have c0 := cell_heap (i := 0) hm1 rfl
     have c1 := cell_heap (i := 1) hm1 rfl
     have c2 := cell_heap (i := 2) hm1 rfl
     have c3 := cell_heap (i := 3) hm1 rfl
     have c4 := cell_heap (i := 4) hm1 rfl
     have c5 := cell_heap (i := 5) hm1 rfl
     have d0 := cell_heap (i := 0) hm2 rfl
     have d1 := cell_heap (i := 1) hm2 rfl
     have d2 := cell_heap (i := 2) hm2 rfl
     have d3 := cell_heap (i := 3) hm2 rfl
     have d4 := cell_heap (i := 4) hm2 rfl
     have d5 := cell_heap (i := 5) hm2 rfl
     have HH := Lib.hid (And.intro h1 h2)
     have hh2 : ¬ 2000 < cb := by omega
     have hh1 : ¬ 2000 < ca := by omega
     clear hm1 hm2
     go_wp2_with fail
     refine (HSC.out w4 HB4.out).mono ?_
     rintro e w5 ⟨rfl, hB5⟩
     have HB5 := Lib.hid (HB4.out.trans (hB5.mono HB4.out.size))
     clear hB5
     go_wp2
     go_ret
     refine ⟨?_, HB5.out⟩
     rw [HS.out]
     have q1 : (NT.mk k m lo hi r kids).nodes ≤ 2000 := by have := HH.out.1; have := HCA2.out; unfold countT at this; omega
     have q2 : (NT.mk k' m' lo' hi' r' kids').nodes ≤ 2000 := by have := HH.out.2; have := HCB2.out; unfold countT at this; omega
     unfold sameT
     rw [decide_eq_true q1, decide_eq_true q2]
     rfl
    ·have HH := Lib.hid h2
     have hh2 : 2000 < cb := by omega
     clear hm1 hm2
     go_wp2
     go_ret
     refine ⟨?_, HB4.out⟩
     rw [HS.out]
     have q2 : ¬ (NT.mk k' m' lo' hi' r' kids').nodes ≤ 2000 := by have := HH.out; have := HCB2.out; unfold countT at this; omega
     unfold sameT
     rw [decide_eq_false q2]
     simp
   ·have HH := Lib.hid h1
    have hh1 : 2000 < ca := by omega
    go_enter Tryz.func25, Tryz.ntmps25
    go_wp2_with fail
    refine HC1.out.mono ?_
    rintro e w3 ⟨rfl, hB3⟩
    rw [← hW2] at hB3
    have HB3 := Lib.hid (HB2.out.trans (hB3.mono HB2.out.size))
    clear hB3 hW2
    go_wp2
    go_ret
    refine ⟨?_, HB3.out⟩
    rw [HS.out]
    have q1 : ¬ (NT.mk k m lo hi r kids).nodes ≤ 2000 := by have := HH.out; have := HCA2.out; unfold countT at this; omega
    unfold sameT
    rw [decide_eq_false q1]
    rfl
end Go.Proofs.YtamhkdlcoghdbaaGreatDoor.PCls
/- Out of LPJoin (wip/tools/prune2.py): the declarations alone that the texts of the trees name. -/
namespace Go.Proofs.YtamhkdlcoghdbaaGreatDoor.PCls
open Go.RowKit
set_option linter.unusedVariables false
set_option linter.unusedSimpArgs false
theorem NT.nodesL_filter (p : NT → Bool) : ∀ l : List NT, NT.nodesL (l.filter p) ≤ NT.nodesL l
 | [] => by simp [NT.nodesL]
 | t :: l => by
  have ih := NT.nodesL_filter p l
  rw [List.filter_cons]
  split
  ·simp only [NT.nodesL]; omega
  ·simp only [NT.nodesL]; omega
theorem catOut_nodes : ∀ l : List NT, NT.nodesL (catOut l) ≤ NT.nodesL l
 | [] => by simp [catOut, NT.nodesL]
 | t :: l => by
  have ih := catOut_nodes l
  have h : NT.nodesL (catOne t) ≤ t.nodes := by
   unfold catOne
   split
   ·have := NT.nodesL_filter (fun t => !decide (t.k = 1)) t.kids
    obtain ⟨k, m, lo, hi, r, kids⟩ := t
    simp only [some6, NT.kids, NT.nodes] at *
    omega
   ·have := NT.nodesL_filter (fun t => !decide (t.k = 1)) [t]
    simp only [some6, NT.nodesL] at *
    omega
  simp only [catOut, List.flatMap_cons, NT.nodesL_append, NT.nodesL] at *
  omega
theorem altOut_nodes : ∀ l : List NT, NT.nodesL (altOut l) ≤ NT.nodesL l
 | [] => by simp [altOut, NT.nodesL]
 | t :: l => by
  have ih := altOut_nodes l
  have h : NT.nodesL (altOne t) ≤ t.nodes := by
   unfold altOne
   split
   ·obtain ⟨k, m, lo, hi, r, kids⟩ := t
    simp only [NT.kids, NT.nodes]
    omega
   ·simp only [NT.nodesL]; omega
  simp only [altOut, List.flatMap_cons, NT.nodesL_append, NT.nodesL] at *
  omega
theorem oneT_nodes (l : List NT) (kind : Int) (no : NT) (h : no.nodes = 1) : (oneT l kind no).nodes ≤ NT.nodesL l + 1 := by
 match l with
 | [] => simp only [oneT, NT.nodesL]; omega
 | [x] => simp only [oneT, NT.nodesL]; omega
 | x :: y :: l => simp only [oneT, NT.nodes, NT.nodesL]; omega
theorem catT_nodes (l : List NT) : (catT l).nodes ≤ NT.nodesL l + 1 := by
 have h1 := oneT_nodes (catOut l) 5 (.mk 1 0 0 0 [] []) rfl
 have h2 := catOut_nodes l
 unfold catT; omega
theorem altT_nodes (l : List NT) : (altT l).nodes ≤ NT.nodesL l + 1 := by
 have h1 := oneT_nodes (altOut l) 6 (.mk 2 0 0 0 [] []) rfl
 have h2 := altOut_nodes l
 unfold altT; omega
theorem altOne_plain (t : NT) (h6 : t.k ≠ 6) : altOne t = [t] := if_neg h6
theorem altOne_alt (l : List NT) : altOne (.mk 6 0 0 0 [] l) = l := if_pos rfl
section
variable (a b c : NT)
theorem same_self (t : NT) (h : t.nodes ≤ 2000) : sameT t t = true := by
 unfold sameT
 rw [decide_eq_true h, (NT.same_iff t t).2 rfl]
 rfl
end
end Go.Proofs.YtamhkdlcoghdbaaGreatDoor.PCls
