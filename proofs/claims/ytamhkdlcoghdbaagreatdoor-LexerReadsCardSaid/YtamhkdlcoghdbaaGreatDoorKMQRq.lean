/- Put together (wip/tools/pack.py): QRq, QRi, QRj. -/
import Derived.Test.YtamhkdlcoghdbaaGreatDoorKMQYLTwo
import Derived.Test.YtamhkdlcoghdbaaGreatDoorKQRn
/- Out of Rq (wip/tools/prune2.py): the declarations alone that the texts of the trees name. -/
namespace Go.Proofs.YtamhkdlcoghdbaaGreatDoor.PCls
set_option linter.unusedVariables false
set_option linter.unusedSimpArgs false
def okD (d : Nat × Nat) : Prop := d.1 ≠ 65533 ∨ 1 < d.2
set_option maxRecDepth 100000 in
set_option maxHeartbeats 4000000 in
theorem dN_fit (n n' b0 b1 b2 b3 c1 c2 c3 : Nat) (hn : 1 ≤ n) (hnn : n ≤ n') (h1 : 1 < n → c1 = b1) (h2 : 2 < n → c2 = b2) (h3 : 3 < n → c3 = b3) (hk : (Lib.decodeN n' b0 b1 b2 b3).2 ≤ n) (hok : okD (Lib.decodeN n' b0 b1 b2 b3)) :
  Lib.decodeN n b0 c1 c2 c3 = Lib.decodeN n' b0 b1 b2 b3 := by
 have hn4 : n = 1 ∨ n = 2 ∨ n = 3 ∨ 3 < n := by omega
 rcases hn4 with rfl | rfl | rfl | hn4
 ·revert hk hok
  unfold Lib.decodeN okD
  repeat' split
  all_goals first | (intros; rfl) | (intros; exfalso; simp only at *; omega)
 ·rw [h1 (by omega)]
  revert hk hok
  unfold Lib.decodeN okD
  repeat' split
  all_goals first | (intros; rfl) | (intros; exfalso; simp only at *; omega)
 ·rw [h1 (by omega), h2 (by omega)]
  revert hk hok
  unfold Lib.decodeN okD
  repeat' split
  all_goals first | (intros; rfl) | (intros; exfalso; simp only at *; omega)
 ·rw [h1 (by omega), h2 (by omega), h3 hn4]
  have e1 : (1 < n) = (1 < n') := by simp; omega
  have e2 : (2 < n) = (2 < n') := by simp; omega
  have e3 : (3 < n) = (3 < n') := by simp; omega
  unfold Lib.decodeN
  simp only [e1, e2, e3]
set_option maxRecDepth 100000 in
set_option maxHeartbeats 4000000 in
theorem dN_grow (n n' b0 b1 b2 b3 c1 c2 c3 : Nat) (hn : 1 ≤ n) (hnn : n ≤ n') (h1 : 1 < n → c1 = b1) (h2 : 2 < n → c2 = b2) (h3 : 3 < n → c3 = b3) (hok : okD (Lib.decodeN n b0 c1 c2 c3)) :
  Lib.decodeN n b0 c1 c2 c3 = Lib.decodeN n' b0 b1 b2 b3 := by
 have hn4 : n = 1 ∨ n = 2 ∨ n = 3 ∨ 3 < n := by omega
 rcases hn4 with rfl | rfl | rfl | hn4
 ·revert hok
  unfold Lib.decodeN okD
  repeat' split
  all_goals first | (intros; rfl) | (intros; exfalso; simp only at *; omega)
 ·rw [h1 (by omega)]
  revert hok
  unfold Lib.decodeN okD
  repeat' split
  all_goals first | (intros; rfl) | (intros; exfalso; simp only at *; omega)
 ·rw [h1 (by omega), h2 (by omega)]
  revert hok
  unfold Lib.decodeN okD
  repeat' split
  all_goals first | (intros; rfl) | (intros; exfalso; simp only at *; omega)
 ·rw [h1 (by omega), h2 (by omega), h3 hn4]
  have e1 : (1 < n) = (1 < n') := by simp; omega
  have e2 : (2 < n) = (2 < n') := by simp; omega
  have e3 : (3 < n) = (3 < n') := by simp; omega
  unfold Lib.decodeN
  simp only [e1, e2, e3]
theorem ext_size (s : ByteArray) (q t : Nat) (ht : t ≤ s.size) : (s.extract q t).size = t - q := by rw [ByteArray.size_extract]; omega
theorem ext_byt (s : ByteArray) (q t i : Nat) (ht : t ≤ s.size) (hi : q + i < t) : Lx.byt (s.extract q t) i = Lx.byt s (q + i) := by
 unfold Lx.byt
 rw [List.getD_eq_getElem?_getD, List.getD_eq_getElem?_getD]
 congr 2
 simp only [ByteArray.data_extract, Array.toList_extract, List.extract_eq_take_drop]
 rw [List.getElem?_take, if_pos (by omega), List.getElem?_drop]
theorem unit_true (s : ByteArray) (p : Nat) (hp : p < s.size) : Lx.unit s true p = if (dAt s p).1 ≠ 65533 ∨ 1 < (dAt s p).2 then ((((dAt s p).1 : Nat) : Int), (dAt s p).2) else (-1, 1) := by
 have h : okAt s p = decide ((dAt s p).1 ≠ 65533 ∨ 1 < (dAt s p).2) := by unfold okAt; rw [dAt_eq]
 unfold Lx.unit
 rw [if_pos hp, if_pos rfl, h, dAt_eq]
 by_cases hd : (dAt s p).1 ≠ 65533 ∨ 1 < (dAt s p).2
 ·rw [if_pos (decide_eq_true hd), if_pos hd]
 ·rw [if_neg (by simpa using hd), if_neg hd]
/-- a unit that is the whole of a piece -/
theorem unit_in (s : ByteArray) (chars : Bool) (q t : Nat) (hq : q < t) (ht : t ≤ s.size) :
  ((Lx.unit (s.extract q t) chars 0).1 < 0 ∨ (Lx.unit (s.extract q t) chars 0).2 ≠ t - q ↔ (Lx.unit s chars q).1 < 0 ∨ (Lx.unit s chars q).2 ≠ t - q) ∧
   (¬ ((Lx.unit s chars q).1 < 0 ∨ (Lx.unit s chars q).2 ≠ t - q) → Lx.unit (s.extract q t) chars 0 = Lx.unit s chars q) := by
 have hz := ext_size s q t ht
 have h0 : 0 < (s.extract q t).size := by omega
 have hqs : q < s.size := by omega
 have hb := fun i hi => ext_byt s q t i ht hi
 have hb0 : Lx.byt (s.extract q t) 0 = Lx.byt s q := hb 0 (by omega)
 cases chars with
 | false =>
  have e : Lx.unit (s.extract q t) false 0 = Lx.unit s false q := by
   simp only [Lx.unit, if_pos h0, if_pos hqs, Bool.false_eq_true, if_false]
   rw [hb0]
  rw [e]
  exact ⟨Iff.rfl, fun _ => rfl⟩
 | true =>
  have ea := unit_true (s.extract q t) 0 h0
  have eb := unit_true s q hqs
  have hA : dAt (s.extract q t) 0 = Lib.decodeN (t - q) (Lx.byt s q) (Lx.byt (s.extract q t) 1) (Lx.byt (s.extract q t) 2) (Lx.byt (s.extract q t) 3) := by
   unfold dAt; rw [hz, hb0, Nat.sub_zero]
  have g1 : 1 < t - q → Lx.byt (s.extract q t) 1 = Lx.byt s (q + 1) := fun h => hb 1 (by omega)
  have g2 : 2 < t - q → Lx.byt (s.extract q t) 2 = Lx.byt s (q + 2) := fun h => hb 2 (by omega)
  have g3 : 3 < t - q → Lx.byt (s.extract q t) 3 = Lx.byt s (q + 3) := fun h => hb 3 (by omega)
  by_cases hokA : okD (dAt (s.extract q t) 0)
  ·have e : dAt (s.extract q t) 0 = dAt s q := by
    rw [hA] at hokA ⊢
    exact dN_grow _ _ _ _ _ _ _ _ _ (by omega) (by omega) g1 g2 g3 hokA
   rw [e] at ea
   rw [ea, eb]
   exact ⟨Iff.rfl, fun _ => rfl⟩
  ·have ha : Lx.unit (s.extract q t) true 0 = (-1, 1) := by rw [ea]; exact if_neg hokA
   have hB : (Lx.unit s true q).1 < 0 ∨ (Lx.unit s true q).2 ≠ t - q := by
    by_cases hokB : okD (dAt s q)
    ·right
     rw [eb.trans (if_pos hokB)]
     intro hk
     apply hokA
     rw [hA, dN_fit _ (s.size - q) _ (Lx.byt s (q + 1)) (Lx.byt s (q + 2)) (Lx.byt s (q + 3)) _ _ _ (by omega) (by omega) g1 g2 g3 (by unfold dAt at hk; omega) hokB]
     exact hokB
    ·left
     rw [eb.trans (if_neg hokB)]
     decide
   rw [ha]
   exact ⟨⟨fun _ => hB, fun _ => .inl (by decide)⟩, fun h => absurd hB h⟩
end Go.Proofs.YtamhkdlcoghdbaaGreatDoor.PCls
/- Out of Ri (wip/tools/prune2.py): the declarations alone that the texts of the trees name. -/
namespace Go.Proofs.YtamhkdlcoghdbaaGreatDoor.PCls
open Go.RowKit Go.Shelf Go.Proofs.YtamhkdlcoghdbaaGreatDoorW.PrintWords Go.Proofs.YtamhkdlcoghdbaaGreatDoorW.PrintLast Go.Proofs.YtamhkdlcoghdbaaGreatDoorW.PrintMore
set_option linter.unusedVariables false
set_option linter.unusedSimpArgs false
theorem index_room (a b : UInt8) : ∀ l : List UInt8, Lib.index l [a, b] + 2 ≤ (l.length : Int) ∨ Lib.index l [a, b] = -1
 | [] => .inr (by simp [Lib.index])
 | x :: l => by
  have ih := index_room a b l
  unfold Lib.index
  split
  ·rename_i h
   cases l with
   | nil => simp [List.isPrefixOf] at h
   | cons y l => left; simp only [List.length_cons]; omega
  ·split
   ·exact .inr rfl
   ·rename_i h1
    rcases ih with ih | ih
    ·left; simp only [List.length_cons]; omega
    ·rw [ih] at h1; exact absurd rfl h1
/-- what an item's reader tells -/
def RItem (W w' : World) (e : Ending) (B base : Nat) (s : ByteArray) (chars fold : Bool) (p : Nat) (V : Value) : Except Er It → Prop
 | .error x => (∃ b c A n k t, e = .returned (.agg #[.bool b, .int .i64 c, .slice A n k, .int .i64 t])) ∧ Rs w' B s chars fold p V x.1 x.2 ∧ Stp W w' B base
 | .ok i => ∃ A k, e = .returned (.agg #[.bool i.isEnd, .int .i64 i.c, .slice A i.l.length k, .int .i64 i.nx]) ∧ Row w' W.heap.size (.slice A i.l.length k) i.l ∧ Below W.heap.size W w'
theorem Stp.lower {A W : World} {B base n : Nat} (h : Stp A W B base) (hb : n ≤ base) : Stp A W B n := ⟨h.os, h.tape, h.output, h.size, fun k h1 h2 => h.block k (by omega) h2⟩
theorem set4_blk {w : World} {g : Nat} {a b c d a' b' c' d' : Value} {t : TypeId} (h : w.heap[g]? = some (.cells #[a', b', c', d'] t (0, 0))) : ((((w.setCell ⟨g, 0, none⟩ a).setCell ⟨g, 1, none⟩ b).setCell ⟨g, 2, none⟩ c).setCell ⟨g, 3, none⟩ d).heap[g]? = some (.cells #[a, b, c, d] t (0, 0)) :=
 set_blk (set_blk (set_blk (set_blk h _ _) _ _) _ _) _ _
theorem set4_other {w : World} {g k : Nat} (hk : k ≠ g) (a b c d : Value) : ((((w.setCell ⟨g, 0, none⟩ a).setCell ⟨g, 1, none⟩ b).setCell ⟨g, 2, none⟩ c).setCell ⟨g, 3, none⟩ d).heap[k]? = w.heap[k]? :=
 (Below.heap_setCell _ ⟨g, 3, none⟩ d k hk).trans ((Below.heap_setCell _ ⟨g, 2, none⟩ c k hk).trans ((Below.heap_setCell _ ⟨g, 1, none⟩ b k hk).trans (Below.heap_setCell _ ⟨g, 0, none⟩ a k hk)))
abbrev set4 (w : World) (g : Nat) (a b c d : Value) : World := (((w.setCell ⟨g, 0, none⟩ a).setCell ⟨g, 1, none⟩ b).setCell ⟨g, 2, none⟩ c).setCell ⟨g, 3, none⟩ d
theorem set4_size (w : World) (g : Nat) (a b c d : Value) : (set4 w g a b c d).heap.size = w.heap.size := by simp [set4, World.setCell]
theorem set4_below {A w : World} {n g : Nat} (h : Below n A w) (hg : n ≤ g) (a b c d : Value) : Below n A (set4 w g a b c d) :=
 (((h.setCell (p := ⟨g, 0, none⟩) hg a).setCell (p := ⟨g, 1, none⟩) hg b).setCell (p := ⟨g, 2, none⟩) hg c).setCell (p := ⟨g, 3, none⟩) hg d
theorem set4_stp {A w : World} {g B base : Nat} (h : Stp A w B base) (hg : base ≤ g) (a b c d : Value) : Stp A (set4 w g a b c d) B base :=
 ⟨h.os, h.tape, h.output, by rw [set4_size]; exact h.size, fun k h1 h2 => (set4_other (by omega) a b c d).trans (h.block k h1 h2)⟩
theorem set4_row {w : World} {n g : Nat} {v : Value} {l : List S64} (h : Row w n v l) (hg : ∀ k, v.ownBlock = some k → k ≠ g) (a b c d : Value) : Row (set4 w g a b c d) n v l :=
 ⟨ownMove h.1 (fun k hk => set4_other (hg k hk) a b c d), h.2⟩
theorem set4_rs {w : World} {g B : Nat} {s : ByteArray} {chars fold : Bool} {p : Nat} {V : Value} {x q : Int} (h : Rs w B s chars fold p V x q) (hg : B ≠ g) (a b c d : Value) : Rs (set4 w g a b c d) B s chars fold p V x q := (set4_other hg a b c d).trans h
/-- what is in the result's block, out of it -/
theorem ret4 {fn : Func} {tmps : Array Value} {w : World} {g : Nat} {v0 v1 v2 v3 : Value} {i : Nat} (hr : fn.results = #[.cell i 185]) (hi : tmps.getD i undef = .pointer (some ⟨g, 0, none⟩)) (h : w.heap[g]? = some (.cells #[v0, v1, v2, v3] 185 (0, 0))) :
  (results fn tmps).run Tryz.prog w = .ok (.agg #[v0, v1, v2, v3]) w := by
 have r0 := lk_cell (i := 0) h rfl
 have r1 := lk_cell (i := 1) h rfl
 have r2 := lk_cell (i := 2) h rfl
 have r3 := lk_cell (i := 3) h rfl
 have hi' : tmps[i]?.getD undef = .pointer (some ⟨g, 0, none⟩) := by simpa using hi
 simp only [results, hr]
 simp [hi', go_sem, r0, r1, r2, r3]
abbrev zero4 : Obj := .cells #[.bool false, .int .i64 0, .slice none 0 0, .int .i64 0] 185
theorem byte_at_piece {s : ByteArray} {p : Nat} {a sg : UInt8} (h : Lx.here s p [a, sg] = true) : s.extract (p + 1) (p + 2) = ⟨#[sg]⟩ := by
 have hle := here_le h
 simp at hle
 have h1 := here_piece s ⟨#[a, sg]⟩ p (by show p + 2 ≤ s.size; omega)
 rw [show (⟨#[a, sg]⟩ : ByteArray).data.toList = [a, sg] from rfl, h] at h1
 have h2 : (s.extract p (p + 2)).toList = [a, sg] := by
  have := (beq_iff_eq.1 h1.symm)
  rw [show (⟨#[a, sg]⟩ : ByteArray).size = 2 from rfl] at this
  rw [this, ByteArray.toList_eq]
 apply ByteArray.ext
 apply Array.ext'
 rw [ByteArray.toList_eq] at h2
 simp only [ByteArray.data_extract, Array.toList_extract, List.extract_eq_take_drop, show p + 2 - p = 2 by omega, show p + 2 - (p + 1) = 1 by omega] at h2 ⊢
 have h3 := congrArg (List.drop 1) h2
 rw [List.drop_take, List.drop_drop] at h3
 simpa using h3
set_option maxHeartbeats 8000000 in
set_option maxRecDepth 100000 in
theorem rnamed58_calls (W : World) (B base p q : Nat) (pp : Nat) (s : ByteArray) (chars fold : Bool) (V : Value) (h : Rs W B s chars fold pp V 0 0) (hbase : base ≤ W.heap.size) (hB : B < base) (hs : s.size ≤ 2000) (hh : Lx.here s p [91, 58] = true) :
  Calls Tryz.prog 187 #[.pointer (some ⟨B, 0, none⟩), .int .i64 p, .int .i64 q] W fun e w' => RItem W w' e B base s chars fold pp V (Lx.named clC s chars q p 58) := by
 have hle := here_le hh
 simp at hle
 have hsx := byte_at_piece hh
 have HEQ := Lib.hid (named58_eq clC s chars q p hle)
 have c0 := h.c0
 have hBW := h.lt
 obtain ⟨W1, hW1⟩ : ∃ X, X = W.alloc zero4 := ⟨_, rfl⟩
 have hb1 : Below W.heap.size W W1 := by rw [hW1]; exact (Below.refl _ W).alloc (Nat.le_refl _) _
 have hk1 : W1.heap[W.heap.size]? = some zero4 := by rw [hW1]; exact heap_alloc_new W _
 have hs1 : W1.heap.size = W.heap.size + 1 := by rw [hW1]; simp
 have h1 := h.below hb1
 have c1 := h1.c0
 have HF := Lib.hid (rfind_calls W1 B (p + 2) s 58 c1 hs (by omega))
 have HNO := Lib.hid (fun (c q : Int) => no_calls W1 B (W.heap.size + 1) s chars fold pp V c q h1 (by omega))
 have HW1 := Lib.hid (And.intro hW1 (And.intro hb1 (And.intro hk1 (And.intro hs1 (And.intro h1 (And.intro hB hbase))))))
 have i1 : (p : Int) + 1 ≤ (s.size : Int) := by omega
 have i2 : (p : Int) + 1 ≤ (p : Int) + 2 := by omega
 have i3 : (p : Int) + 2 ≤ (s.size : Int) := by omega
 have i4 : ((p : Int) + 2).toNat = p + 2 := by omega
 have i5 : ((p : Int) + 1).toNat = p + 1 := by omega
 have hp9 : (p : Int) ≤ 2000 := by omega
 have i6 : (0 : Int) ≤ (p : Int) + 1 := by omega
 clear h hW1 hb1 hk1 hs1 h1 hh hbase hB c1
 go_enter Tryz.func187, Tryz.ntmps187
 go_wp2_with fail
 rw [← HW1.out.1, show (⟨#[58]⟩ : ByteArray) ++ ⟨#[93]⟩ = ⟨#[58, 93]⟩ from rfl]
 refine HF.out.mono ?_
 rintro e w ⟨rfl, hw⟩
 subst w
 have hroom := index_room 58 93 (s.data.toList.drop (p + 2))
 rw [List.length_drop, len_size] at hroom
 have hfp : findP s 58 (p + 2) = if Lib.index (s.data.toList.drop (p + 2)) [58, 93] < 0 then -1 else ((p + 2 : Nat) : Int) + Lib.index (s.data.toList.drop (p + 2)) [58, 93] := rfl
 have HEQ2 := Lib.hid HEQ.out
 clear HEQ HF c0
 obtain ⟨k, hk⟩ : ∃ k, k = Lib.index (s.data.toList.drop (p + 2)) [58, 93] := ⟨_, rfl⟩
 rw [← hk] at hroom hfp HEQ2
 clear hk
 obtain ⟨hW1, hb1, hk1, hs1, h1, hB, hbase⟩ := HW1.out
 by_cases hk0 : k < 0
 ·have HX := Lib.hid (HEQ2.out.trans (if_pos hk0))
  rw [if_pos hk0] at hfp
  rw [hfp]
  have HB1 := Lib.hid (And.intro hb1 (And.intro hk1 (And.intro hs1 (And.intro hB hbase))))
  clear HEQ2 hroom hk0 hfp hW1 HW1 hb1 hk1 hs1 h1 hB hbase
  go_wp2_with fail
  refine (HNO.out 33 q).mono ?_
  rintro e w2 ⟨rfl, hrs, hst⟩
  have hz := (hst.block W.heap.size (by have := HB1.out; omega) (by have := HB1.out; omega)).trans HB1.out.2.1
  have hsz2 := hst.size
  have r0 := lk_cell (i := 0) hz rfl
  have r1 := lk_cell (i := 1) hz rfl
  have r2 := lk_cell (i := 2) hz rfl
  have r3 := lk_cell (i := 3) hz rfl
  have q0 : ∀ o, w2.frozen? ⟨W.heap.size, o, none⟩ = false := fun o => by simp [World.frozen?, hz]
  have c0 := hrs.c0
  have HE := Lib.hid (And.intro hz (And.intro hrs hst))
  clear hz hrs hst HNO
  go_wp2
  refine bodyPost_ret (v := .agg #[.bool false, .int .i64 0, .slice none 0 0, .int .i64 s.size]) (ret4 rfl rfl (set4_blk HE.out.1)) rfl ?_
  rw [HX.out]
  exact ⟨⟨_, _, _, _, _, _, rfl⟩, set4_rs HE.out.2.1 (by have := HB1.out; omega) _ _ _ _, set4_stp ((Stp.of_below HB1.out.1 HB1.out.2.2.2.2).trans (HE.out.2.2.lower (by have := HB1.out; omega))) HB1.out.2.2.2.2 _ _ _ _⟩
 ·have HX := Lib.hid (HEQ2.out.trans (if_neg hk0))
  rw [if_neg hk0] at hfp
  obtain ⟨t, ht⟩ : ∃ t, t = p + 2 + k.toNat := ⟨_, rfl⟩
  have htv : ((p + 2 : Nat) : Int) + k = (t : Int) := by omega
  rw [htv] at hfp
  rw [← ht] at HX
  rw [hfp]
  have t1 : t + 2 ≤ s.size := by omega
  have t2 : p + 2 ≤ t := by omega
  have j1 : (p : Int) + 2 ≤ (t : Int) := by omega
  have j2 : (t : Int) ≤ (s.size : Int) := by omega
  have j3 : ¬ (t : Int) < 0 := by omega
  have j4 : (0 : Int) ≤ (p : Int) + 2 := by omega
  have j5 : (t : Int) ≤ 2000 := by omega
  have HNA := Lib.hid (rnamed_calls W1 (s.extract (p + 2) t))
  obtain ⟨a, ha⟩ : ∃ a, a = s.extract (p + 2) t := ⟨_, rfl⟩
  rw [← ha] at HX HNA
  have hsa : s.extract (p + 2) t = a := ha.symm
  have c0 := h1.c0
  have HB1 := Lib.hid (And.intro hb1 (And.intro hk1 (And.intro hs1 (And.intro hB (And.intro hbase h1)))))
  clear HEQ2 hroom hk0 hfp hW1 HW1 hb1 hk1 hs1 h1 hB hbase ht htv ha HNO
  go_wp2_with fail
  refine HNA.out.mono ?_
  rintro e w2 ⟨v, rfl, hrow, hbw⟩
  obtain ⟨A, n, rfl⟩ := hrow.form
  have hrs := HB1.out.2.2.2.2.2.below hbw
  have hz := (hbw.block W.heap.size (by have := HB1.out; omega)).trans HB1.out.2.1
  have hsz2 := hbw.size
  have hs1 := HB1.out.2.2.1
  have hown : ∀ g, (Value.slice A (clC.named a).1.length n).ownBlock = some g → g ≠ W.heap.size := fun g hg => by have := (ownLt hrow.1 g hg).1; omega
  by_cases hok : (clC.named a).2 = true
  ·have HY := Lib.hid (HX.out.trans (if_pos hok))
   have r0 := lk_cell (i := 0) hz rfl
   have r1 := lk_cell (i := 1) hz rfl
   have r2 := lk_cell (i := 2) hz rfl
   have r3 := lk_cell (i := 3) hz rfl
   have q0 : ∀ o, w2.frozen? ⟨W.heap.size, o, none⟩ = false := fun o => by simp [World.frozen?, hz]
   have HE := Lib.hid (And.intro hz (And.intro hrow (And.intro hbw hown)))
   obtain ⟨lr, hlr⟩ : ∃ lr, lr = (clC.named a).1 := ⟨_, rfl⟩
   rw [← hlr] at HE HY ⊢
   clear hz hrow hbw hown hrs HX HNA hlr hsz2 hs1
   go_wp2
   refine bodyPost_ret (v := .agg #[.bool false, .int .i64 0, .slice A lr.length n, .int .i64 ((t : Int) + 2)]) (ret4 rfl rfl (set4_blk HE.out.1)) rfl ?_
   rw [HY.out]
   have hs1 := HB1.out.2.2.1
   exact ⟨A, n, rfl, set4_row (HE.out.2.1.lower (by omega)) HE.out.2.2.2 _ _ _ _, set4_below (HB1.out.1.trans (HE.out.2.2.1.mono (by omega))) (Nat.le_refl _) _ _ _ _⟩
  ·have hok2 : (clC.named a).2 = false := by simpa using hok
   have HY := Lib.hid (HX.out.trans (if_neg hok))
   have HNO := Lib.hid (no_calls w2 B (W.heap.size + 1) s chars fold pp V 35 p hrs (by have := HB1.out; omega))
   obtain ⟨lr, hlr⟩ : ∃ lr, lr = (clC.named a).1 := ⟨_, rfl⟩
   rw [← hlr]
   have HE0 := Lib.hid (And.intro hz hbw)
   clear hz hrow hbw hown hrs HX HNA hlr hok
   go_wp2_with fail
   refine HNO.out.mono ?_
   rintro e w3 ⟨rfl, hrs, hst⟩
   have hz := (hst.block W.heap.size (by have := HB1.out; omega) (by have := HB1.out; omega)).trans HE0.out.1
   have hsz3 := hst.size
   have r0 := lk_cell (i := 0) hz rfl
   have r1 := lk_cell (i := 1) hz rfl
   have r2 := lk_cell (i := 2) hz rfl
   have r3 := lk_cell (i := 3) hz rfl
   have q0 : ∀ o, w3.frozen? ⟨W.heap.size, o, none⟩ = false := fun o => by simp [World.frozen?, hz]
   have HE := Lib.hid (And.intro hz (And.intro hrs hst))
   clear hz hrs hst HNO
   go_wp2
   refine bodyPost_ret (v := .agg #[.bool false, .int .i64 0, .slice A lr.length n, .int .i64 ((t : Int) + 2)]) (ret4 rfl rfl (set4_blk HE.out.1)) rfl ?_
   rw [HY.out]
   exact ⟨⟨_, _, _, _, _, _, rfl⟩, set4_rs HE.out.2.1 (by have := HB1.out; omega) _ _ _ _, set4_stp ((Stp.of_below (HB1.out.1.trans (HE0.out.2.mono (by omega))) HB1.out.2.2.2.2.1).trans (HE.out.2.2.lower (by have := HB1.out; omega))) HB1.out.2.2.2.2.1 _ _ _ _⟩
end Go.Proofs.YtamhkdlcoghdbaaGreatDoor.PCls
/- Out of Rj (wip/tools/prune2.py): the declarations alone that the texts of the trees name. -/
namespace Go.Proofs.YtamhkdlcoghdbaaGreatDoor.PCls
open Go.RowKit Go.Shelf Go.Proofs.YtamhkdlcoghdbaaGreatDoorW.PrintWords Go.Proofs.YtamhkdlcoghdbaaGreatDoorW.PrintLast Go.Proofs.YtamhkdlcoghdbaaGreatDoorW.PrintMore
set_option linter.unusedVariables false
set_option linter.unusedSimpArgs false
theorem elk_index (s : ByteArray) (p : Nat) (sg : UInt8) : elk s p sg = Lib.index (s.data.toList.drop (p + 3)) [sg, 93] := by
 unfold elk
 split
 ·rfl
 ·rw [List.drop_eq_nil_of_le (by rw [len_size]; omega)]
  simp [Lib.index]
theorem alloc_rs {w : World} {B : Nat} {s : ByteArray} {chars fold : Bool} {p : Nat} {V : Value} {x q : Int} (h : Rs w B s chars fold p V x q) (o : Obj) : Rs (w.alloc o) B s chars fold p V x q := (heap_alloc_old _ _ h.lt).trans h
theorem alloc_stp {A w : World} {B base : Nat} (h : Stp A w B base) (hb : base ≤ w.heap.size) (o : Obj) : Stp A (w.alloc o) B base :=
 h.trans (Stp.of_below ((Below.refl _ _).alloc (Nat.le_refl _) o) hb)
set_option maxHeartbeats 8000000 in
set_option maxRecDepth 100000 in
theorem rnamed61_calls (W : World) (B base p q : Nat) (pp : Nat) (s : ByteArray) (chars fold : Bool) (V : Value) (h : Rs W B s chars fold pp V 0 0) (hbase : base ≤ W.heap.size) (hB : B < base) (hs : s.size ≤ 2000) (hh : Lx.here s p [91, 61] = true) :
  Calls Tryz.prog 187 #[.pointer (some ⟨B, 0, none⟩), .int .i64 p, .int .i64 q] W fun e w' => RItem W w' e B base s chars fold pp V (Lx.named clC s chars q p 61) := by
 have hle := here_le hh
 simp at hle
 have hsx := byte_at_piece hh
 have HEQ := Lib.hid (named_el_eq clC s chars q p 61 (by decide))
 rw [elk_index] at HEQ
 have c0 := h.c0
 have hBW := h.lt
 obtain ⟨W1, hW1⟩ : ∃ X, X = W.alloc zero4 := ⟨_, rfl⟩
 have hb1 : Below W.heap.size W W1 := by rw [hW1]; exact (Below.refl _ W).alloc (Nat.le_refl _) _
 have hk1 : W1.heap[W.heap.size]? = some zero4 := by rw [hW1]; exact heap_alloc_new W _
 have hs1 : W1.heap.size = W.heap.size + 1 := by rw [hW1]; simp
 have h1 := h.below hb1
 have c1 := h1.c0
 have HF := Lib.hid (rfind_calls W1 B (p + 3) s 61 c1 hs (by omega))
 have HNO := Lib.hid (fun (c q : Int) => no_calls W1 B (W.heap.size + 1) s chars fold pp V c q h1 (by omega))
 have HW1 := Lib.hid (And.intro hW1 (And.intro hb1 (And.intro hk1 (And.intro hs1 (And.intro h1 (And.intro hB hbase))))))
 have i1 : (p : Int) + 1 ≤ (s.size : Int) := by omega
 have i2 : (p : Int) + 1 ≤ (p : Int) + 2 := by omega
 have i3 : (p : Int) + 2 ≤ (s.size : Int) := by omega
 have i4 : ((p : Int) + 2).toNat = p + 2 := by omega
 have i5 : ((p : Int) + 1).toNat = p + 1 := by omega
 have hp9 : (p : Int) ≤ 2000 := by omega
 have i6 : (0 : Int) ≤ (p : Int) + 1 := by omega
 clear h hW1 hb1 hk1 hs1 h1 hh hbase hB c1
 go_enter Tryz.func187, Tryz.ntmps187
 go_wp2_with fail
 rw [← HW1.out.1, show (⟨#[61]⟩ : ByteArray) ++ ⟨#[93]⟩ = ⟨#[61, 93]⟩ from rfl, show (p : Int) + 2 + 1 = ((p + 3 : Nat) : Int) by omega]
 refine HF.out.mono ?_
 rintro e w ⟨rfl, hw⟩
 subst w
 have hroom := index_room 61 93 (s.data.toList.drop (p + 3))
 rw [List.length_drop, len_size] at hroom
 have hfp : findP s 61 (p + 3) = if Lib.index (s.data.toList.drop (p + 3)) [61, 93] < 0 then -1 else ((p + 3 : Nat) : Int) + Lib.index (s.data.toList.drop (p + 3)) [61, 93] := rfl
 have HEQ2 := Lib.hid HEQ.out
 clear HEQ HF c0
 obtain ⟨k, hk⟩ : ∃ k, k = Lib.index (s.data.toList.drop (p + 3)) [61, 93] := ⟨_, rfl⟩
 rw [← hk] at hroom hfp HEQ2
 clear hk
 obtain ⟨hW1, hb1, hk1, hs1, h1, hB, hbase⟩ := HW1.out
 by_cases hk0 : k < 0
 ·have HX := Lib.hid (HEQ2.out.trans (if_pos hk0))
  rw [if_pos hk0] at hfp
  rw [hfp]
  have HB1 := Lib.hid (And.intro hb1 (And.intro hk1 (And.intro hs1 (And.intro hB hbase))))
  clear HEQ2 hroom hk0 hfp hW1 HW1 hb1 hk1 hs1 h1 hB hbase
  go_wp2_with fail
  refine (HNO.out 33 q).mono ?_
  rintro e w2 ⟨rfl, hrs, hst⟩
  have hz := (hst.block W.heap.size (by have := HB1.out; omega) (by have := HB1.out; omega)).trans HB1.out.2.1
  have hsz2 := hst.size
  have r0 := lk_cell (i := 0) hz rfl
  have r1 := lk_cell (i := 1) hz rfl
  have r2 := lk_cell (i := 2) hz rfl
  have r3 := lk_cell (i := 3) hz rfl
  have q0 : ∀ o, w2.frozen? ⟨W.heap.size, o, none⟩ = false := fun o => by simp [World.frozen?, hz]
  have c0 := hrs.c0
  have HE := Lib.hid (And.intro hz (And.intro hrs hst))
  clear hz hrs hst HNO
  go_wp2
  refine bodyPost_ret (v := .agg #[.bool false, .int .i64 0, .slice none 0 0, .int .i64 s.size]) (ret4 rfl rfl (set4_blk HE.out.1)) rfl ?_
  rw [HX.out]
  exact ⟨⟨_, _, _, _, _, _, rfl⟩, set4_rs HE.out.2.1 (by have := HB1.out; omega) _ _ _ _, set4_stp ((Stp.of_below HB1.out.1 HB1.out.2.2.2.2).trans (HE.out.2.2.lower (by have := HB1.out; omega))) HB1.out.2.2.2.2 _ _ _ _⟩
 ·have HX := Lib.hid (HEQ2.out.trans (if_neg hk0))
  rw [if_neg hk0] at hfp
  obtain ⟨t, ht⟩ : ∃ t, t = p + 3 + k.toNat := ⟨_, rfl⟩
  have htv : ((p + 3 : Nat) : Int) + k = (t : Int) := by omega
  rw [htv] at hfp
  rw [← ht, show 1 + k.toNat = t - (p + 2) by omega] at HX
  rw [hfp]
  have t1 : t + 2 ≤ s.size := by omega
  have t2 : p + 3 ≤ t := by omega
  have j1 : (p : Int) + 2 ≤ (t : Int) := by omega
  have j2 : (t : Int) ≤ (s.size : Int) := by omega
  have j3 : ¬ (t : Int) < 0 := by omega
  have j4 : (0 : Int) ≤ (p : Int) + 2 := by omega
  have j5 : (t : Int) ≤ 2000 := by omega
  have hua := unit_in s chars (p + 2) t (by omega) (by omega)
  have hza := ext_size s (p + 2) t (by omega)
  obtain ⟨a, ha⟩ : ∃ a, a = s.extract (p + 2) t := ⟨_, rfl⟩
  rw [← ha] at hua hza
  have HNA := Lib.hid (refunit_calls a chars 0 W1 (by omega) (by omega))
  have hsa : s.extract (p + 2) t = a := ha.symm
  have c0 := h1.c0
  have c1 := h1.c1
  have hza2 : (a.size : Int) = (t : Int) - ((p : Int) + 2) := by omega
  have hrng := unit_rng a chars 0
  obtain ⟨ua, hua0⟩ : ∃ u, u = Lx.unit a chars 0 := ⟨_, rfl⟩
  rw [← hua0] at hua HNA hrng
  obtain ⟨us, hus0⟩ : ∃ u, u = Lx.unit s chars (p + 2) := ⟨_, rfl⟩
  rw [← hus0] at hua HX
  obtain ⟨uc, un⟩ := ua
  have HB1 := Lib.hid (And.intro hb1 (And.intro hk1 (And.intro hs1 (And.intro hB (And.intro hbase h1)))))
  have HUA := Lib.hid (And.intro hua (And.intro hza hrng))
  have hun : (un : Int) ≤ 2000 := by have := hrng; omega
  clear HEQ2 hroom hk0 hfp hW1 HW1 hb1 hk1 hs1 h1 hB hbase ht htv ha HNO hua0 hus0 hua hza hza2 hrng
  go_wp2_with fail
  refine HNA.out.mono ?_
  rintro e w2 ⟨rfl, hbw⟩
  have hrs := HB1.out.2.2.2.2.2.below hbw
  have hz := (hbw.block W.heap.size (by have := HB1.out; omega)).trans HB1.out.2.1
  have hsz2 := hbw.size
  by_cases hc : uc < 0 ∨ un ≠ t - (p + 2)
  ·have HY := Lib.hid (HX.out.trans (if_pos (HUA.out.1.1.1 hc)))
   have HNO := Lib.hid (no_calls w2 B (W.heap.size + 1) s chars fold pp V 35 p hrs (by have := HB1.out; omega))
   have hcase : uc < 0 ∨ (¬ uc < 0 ∧ ((un : Int) != (a.size : Int)) = true) := by
    rw [HUA.out.2.1, bne_iff_ne]
    by_cases hcn : uc < 0
    ·exact .inl hcn
    ·rcases hc with hc | hc
     ·exact absurd hc hcn
     ·right; exact ⟨hcn, by omega⟩
   have HE0 := Lib.hid (And.intro hz hbw)
   clear hz hbw hrs hc HX HNA
   rcases hcase with hcn | ⟨hcn, hkey⟩
   ·go_wp2_with fail
    refine HNO.out.mono ?_
    rintro e w3 ⟨rfl, hrs, hst⟩
    have hz := (hst.block W.heap.size (by have := HB1.out; omega) (by have := HB1.out; omega)).trans HE0.out.1
    have hsz3 := hst.size
    have hb3 : base ≤ w3.heap.size := by have := HB1.out; omega
    have hz1 : (w3.alloc (.cells #[.int .i64 uc, .int .i64 uc] 39)).heap[W.heap.size]? = some zero4 := (heap_alloc_old _ _ (Array.getElem?_eq_some_iff.1 hz).1).trans hz
    have r0 := lk_cell (i := 0) hz1 rfl
    have r1 := lk_cell (i := 1) hz1 rfl
    have r2 := lk_cell (i := 2) hz1 rfl
    have r3 := lk_cell (i := 3) hz1 rfl
    have q0 : ∀ o, (w3.alloc (.cells #[.int .i64 uc, .int .i64 uc] 39)).frozen? ⟨W.heap.size, o, none⟩ = false := fun o => by simp only [World.frozen?, hz1]; simp
    have HE := Lib.hid (And.intro hz1 (And.intro hrs hst))
    clear hz hz1 hrs hst HNO
    go_wp2
    refine bodyPost_ret (v := .agg #[.bool false, .int .i64 uc, .slice (some ⟨w3.heap.size, 0, none⟩) 1 1, .int .i64 ((t : Int) + 2)]) (ret4 rfl rfl (set4_blk HE.out.1)) rfl ?_
    rw [HY.out]
    exact ⟨⟨_, _, _, _, _, _, rfl⟩, set4_rs (alloc_rs HE.out.2.1 _) (by have := HB1.out; omega) _ _ _ _, set4_stp (alloc_stp ((Stp.of_below (HB1.out.1.trans (HE0.out.2.mono (by have := HB1.out; omega))) HB1.out.2.2.2.2.1).trans (HE.out.2.2.lower (by have := HB1.out; omega))) hb3 _) HB1.out.2.2.2.2.1 _ _ _ _⟩
   ·go_wp2_with fail
    refine HNO.out.mono ?_
    rintro e w3 ⟨rfl, hrs, hst⟩
    have hz := (hst.block W.heap.size (by have := HB1.out; omega) (by have := HB1.out; omega)).trans HE0.out.1
    have hsz3 := hst.size
    have hb3 : base ≤ w3.heap.size := by have := HB1.out; omega
    have hz1 : (w3.alloc (.cells #[.int .i64 uc, .int .i64 uc] 39)).heap[W.heap.size]? = some zero4 := (heap_alloc_old _ _ (Array.getElem?_eq_some_iff.1 hz).1).trans hz
    have r0 := lk_cell (i := 0) hz1 rfl
    have r1 := lk_cell (i := 1) hz1 rfl
    have r2 := lk_cell (i := 2) hz1 rfl
    have r3 := lk_cell (i := 3) hz1 rfl
    have q0 : ∀ o, (w3.alloc (.cells #[.int .i64 uc, .int .i64 uc] 39)).frozen? ⟨W.heap.size, o, none⟩ = false := fun o => by simp only [World.frozen?, hz1]; simp
    have HE := Lib.hid (And.intro hz1 (And.intro hrs hst))
    clear hz hz1 hrs hst HNO
    go_wp2
    refine bodyPost_ret (v := .agg #[.bool false, .int .i64 uc, .slice (some ⟨w3.heap.size, 0, none⟩) 1 1, .int .i64 ((t : Int) + 2)]) (ret4 rfl rfl (set4_blk HE.out.1)) rfl ?_
    rw [HY.out]
    exact ⟨⟨_, _, _, _, _, _, rfl⟩, set4_rs (alloc_rs HE.out.2.1 _) (by have := HB1.out; omega) _ _ _ _, set4_stp (alloc_stp ((Stp.of_below (HB1.out.1.trans (HE0.out.2.mono (by have := HB1.out; omega))) HB1.out.2.2.2.2.1).trans (HE.out.2.2.lower (by have := HB1.out; omega))) hb3 _) HB1.out.2.2.2.2.1 _ _ _ _⟩
  ·have HY := Lib.hid (HX.out.trans (if_neg (fun hx => hc (HUA.out.1.1.2 hx))))
   have huu := HUA.out.1.2 (fun hx => hc (HUA.out.1.1.2 hx))
   have hcn : ¬ uc < 0 := fun hx => hc (.inl hx)
   have hkey : ((un : Int) != (a.size : Int)) = false := by
    rw [HUA.out.2.1, bne_eq_false_iff_eq]
    have : un = t - (p + 2) := Decidable.byContradiction fun hx => hc (.inr hx)
    omega
   subst us
   have hz1 : (w2.alloc (.cells #[.int .i64 uc, .int .i64 uc] 39)).heap[W.heap.size]? = some zero4 := (heap_alloc_old _ _ (Array.getElem?_eq_some_iff.1 hz).1).trans hz
   have r0 := lk_cell (i := 0) hz1 rfl
   have r1 := lk_cell (i := 1) hz1 rfl
   have r2 := lk_cell (i := 2) hz1 rfl
   have r3 := lk_cell (i := 3) hz1 rfl
   have q0 : ∀ o, (w2.alloc (.cells #[.int .i64 uc, .int .i64 uc] 39)).frozen? ⟨W.heap.size, o, none⟩ = false := fun o => by simp only [World.frozen?, hz1]; simp
   have HE := Lib.hid (And.intro hz1 (And.intro hbw hrs))
   clear hz hz1 hbw hrs hc HX HNA
   go_wp2
   refine bodyPost_ret (v := .agg #[.bool false, .int .i64 uc, .slice (some ⟨w2.heap.size, 0, none⟩) 1 1, .int .i64 ((t : Int) + 2)]) (ret4 rfl rfl (set4_blk HE.out.1)) rfl ?_
   rw [HY.out]
   have hlo : W.heap.size ≤ w2.heap.size := by have := HB1.out; omega
   have hne : ∀ k, (Value.slice (some ⟨w2.heap.size, 0, none⟩) 1 1).ownBlock = some k → k ≠ W.heap.size := fun k hk => by
    have hk2 : w2.heap.size = k := by simpa [Value.ownBlock] using hk
    have := HB1.out
    omega
   have hrow := set4_row (g := W.heap.size) (Row.one w2 uc (by have := HUA.out.2.2; omega)) hne (.bool false) (.int .i64 uc) (.slice (some ⟨w2.heap.size, 0, none⟩) 1 1) (.int .i64 ((t : Int) + 2))
   exact ⟨some ⟨w2.heap.size, 0, none⟩, 1, rfl, hrow.lower hlo, set4_below (((HB1.out.1).trans (HE.out.2.1.mono (by have := HB1.out; omega))).alloc hlo _) (Nat.le_refl _) _ _ _ _⟩
set_option maxHeartbeats 8000000 in
set_option maxRecDepth 100000 in
theorem rnamed46_calls (W : World) (B base p q : Nat) (pp : Nat) (s : ByteArray) (chars fold : Bool) (V : Value) (h : Rs W B s chars fold pp V 0 0) (hbase : base ≤ W.heap.size) (hB : B < base) (hs : s.size ≤ 2000) (hh : Lx.here s p [91, 46] = true) :
  Calls Tryz.prog 187 #[.pointer (some ⟨B, 0, none⟩), .int .i64 p, .int .i64 q] W fun e w' => RItem W w' e B base s chars fold pp V (Lx.named clC s chars q p 46) := by
 have hle := here_le hh
 simp at hle
 have hsx := byte_at_piece hh
 have HEQ := Lib.hid (named_el_eq clC s chars q p 46 (by decide))
 rw [elk_index] at HEQ
 have c0 := h.c0
 have hBW := h.lt
 obtain ⟨W1, hW1⟩ : ∃ X, X = W.alloc zero4 := ⟨_, rfl⟩
 have hb1 : Below W.heap.size W W1 := by rw [hW1]; exact (Below.refl _ W).alloc (Nat.le_refl _) _
 have hk1 : W1.heap[W.heap.size]? = some zero4 := by rw [hW1]; exact heap_alloc_new W _
 have hs1 : W1.heap.size = W.heap.size + 1 := by rw [hW1]; simp
 have h1 := h.below hb1
 have c1 := h1.c0
 have HF := Lib.hid (rfind_calls W1 B (p + 3) s 46 c1 hs (by omega))
 have HNO := Lib.hid (fun (c q : Int) => no_calls W1 B (W.heap.size + 1) s chars fold pp V c q h1 (by omega))
 have HW1 := Lib.hid (And.intro hW1 (And.intro hb1 (And.intro hk1 (And.intro hs1 (And.intro h1 (And.intro hB hbase))))))
 have i1 : (p : Int) + 1 ≤ (s.size : Int) := by omega
 have i2 : (p : Int) + 1 ≤ (p : Int) + 2 := by omega
 have i3 : (p : Int) + 2 ≤ (s.size : Int) := by omega
 have i4 : ((p : Int) + 2).toNat = p + 2 := by omega
 have i5 : ((p : Int) + 1).toNat = p + 1 := by omega
 have hp9 : (p : Int) ≤ 2000 := by omega
 have i6 : (0 : Int) ≤ (p : Int) + 1 := by omega
 clear h hW1 hb1 hk1 hs1 h1 hh hbase hB c1
 go_enter Tryz.func187, Tryz.ntmps187
 go_wp2_with fail
 rw [← HW1.out.1, show (⟨#[46]⟩ : ByteArray) ++ ⟨#[93]⟩ = ⟨#[46, 93]⟩ from rfl, show (p : Int) + 2 + 1 = ((p + 3 : Nat) : Int) by omega]
 refine HF.out.mono ?_
 rintro e w ⟨rfl, hw⟩
 subst w
 have hroom := index_room 46 93 (s.data.toList.drop (p + 3))
 rw [List.length_drop, len_size] at hroom
 have hfp : findP s 46 (p + 3) = if Lib.index (s.data.toList.drop (p + 3)) [46, 93] < 0 then -1 else ((p + 3 : Nat) : Int) + Lib.index (s.data.toList.drop (p + 3)) [46, 93] := rfl
 have HEQ2 := Lib.hid HEQ.out
 clear HEQ HF c0
 obtain ⟨k, hk⟩ : ∃ k, k = Lib.index (s.data.toList.drop (p + 3)) [46, 93] := ⟨_, rfl⟩
 rw [← hk] at hroom hfp HEQ2
 clear hk
 obtain ⟨hW1, hb1, hk1, hs1, h1, hB, hbase⟩ := HW1.out
 by_cases hk0 : k < 0
 ·have HX := Lib.hid (HEQ2.out.trans (if_pos hk0))
  rw [if_pos hk0] at hfp
  rw [hfp]
  have HB1 := Lib.hid (And.intro hb1 (And.intro hk1 (And.intro hs1 (And.intro hB hbase))))
  clear HEQ2 hroom hk0 hfp hW1 HW1 hb1 hk1 hs1 h1 hB hbase
  go_wp2_with fail
  refine (HNO.out 33 q).mono ?_
  rintro e w2 ⟨rfl, hrs, hst⟩
  have hz := (hst.block W.heap.size (by have := HB1.out; omega) (by have := HB1.out; omega)).trans HB1.out.2.1
  have hsz2 := hst.size
  have r0 := lk_cell (i := 0) hz rfl
  have r1 := lk_cell (i := 1) hz rfl
  have r2 := lk_cell (i := 2) hz rfl
  have r3 := lk_cell (i := 3) hz rfl
  have q0 : ∀ o, w2.frozen? ⟨W.heap.size, o, none⟩ = false := fun o => by simp [World.frozen?, hz]
  have c0 := hrs.c0
  have HE := Lib.hid (And.intro hz (And.intro hrs hst))
  clear hz hrs hst HNO
  go_wp2
  refine bodyPost_ret (v := .agg #[.bool false, .int .i64 0, .slice none 0 0, .int .i64 s.size]) (ret4 rfl rfl (set4_blk HE.out.1)) rfl ?_
  rw [HX.out]
  exact ⟨⟨_, _, _, _, _, _, rfl⟩, set4_rs HE.out.2.1 (by have := HB1.out; omega) _ _ _ _, set4_stp ((Stp.of_below HB1.out.1 HB1.out.2.2.2.2).trans (HE.out.2.2.lower (by have := HB1.out; omega))) HB1.out.2.2.2.2 _ _ _ _⟩
 ·have HX := Lib.hid (HEQ2.out.trans (if_neg hk0))
  rw [if_neg hk0] at hfp
  obtain ⟨t, ht⟩ : ∃ t, t = p + 3 + k.toNat := ⟨_, rfl⟩
  have htv : ((p + 3 : Nat) : Int) + k = (t : Int) := by omega
  rw [htv] at hfp
  rw [← ht, show 1 + k.toNat = t - (p + 2) by omega] at HX
  rw [hfp]
  have t1 : t + 2 ≤ s.size := by omega
  have t2 : p + 3 ≤ t := by omega
  have j1 : (p : Int) + 2 ≤ (t : Int) := by omega
  have j2 : (t : Int) ≤ (s.size : Int) := by omega
  have j3 : ¬ (t : Int) < 0 := by omega
  have j4 : (0 : Int) ≤ (p : Int) + 2 := by omega
  have j5 : (t : Int) ≤ 2000 := by omega
  have hua := unit_in s chars (p + 2) t (by omega) (by omega)
  have hza := ext_size s (p + 2) t (by omega)
  obtain ⟨a, ha⟩ : ∃ a, a = s.extract (p + 2) t := ⟨_, rfl⟩
  rw [← ha] at hua hza
  have HNA := Lib.hid (refunit_calls a chars 0 W1 (by omega) (by omega))
  have hsa : s.extract (p + 2) t = a := ha.symm
  have c0 := h1.c0
  have c1 := h1.c1
  have hza2 : (a.size : Int) = (t : Int) - ((p : Int) + 2) := by omega
  have hrng := unit_rng a chars 0
  obtain ⟨ua, hua0⟩ : ∃ u, u = Lx.unit a chars 0 := ⟨_, rfl⟩
  rw [← hua0] at hua HNA hrng
  obtain ⟨us, hus0⟩ : ∃ u, u = Lx.unit s chars (p + 2) := ⟨_, rfl⟩
  rw [← hus0] at hua HX
  obtain ⟨uc, un⟩ := ua
  have HB1 := Lib.hid (And.intro hb1 (And.intro hk1 (And.intro hs1 (And.intro hB (And.intro hbase h1)))))
  have HUA := Lib.hid (And.intro hua (And.intro hza hrng))
  have hun : (un : Int) ≤ 2000 := by have := hrng; omega
  clear HEQ2 hroom hk0 hfp hW1 HW1 hb1 hk1 hs1 h1 hB hbase ht htv ha HNO hua0 hus0 hua hza hza2 hrng
  go_wp2_with fail
  refine HNA.out.mono ?_
  rintro e w2 ⟨rfl, hbw⟩
  have hrs := HB1.out.2.2.2.2.2.below hbw
  have hz := (hbw.block W.heap.size (by have := HB1.out; omega)).trans HB1.out.2.1
  have hsz2 := hbw.size
  by_cases hc : uc < 0 ∨ un ≠ t - (p + 2)
  ·have HY := Lib.hid (HX.out.trans (if_pos (HUA.out.1.1.1 hc)))
   have HNO := Lib.hid (no_calls w2 B (W.heap.size + 1) s chars fold pp V 35 p hrs (by have := HB1.out; omega))
   have hcase : uc < 0 ∨ (¬ uc < 0 ∧ ((un : Int) != (a.size : Int)) = true) := by
    rw [HUA.out.2.1, bne_iff_ne]
    by_cases hcn : uc < 0
    ·exact .inl hcn
    ·rcases hc with hc | hc
     ·exact absurd hc hcn
     ·right; exact ⟨hcn, by omega⟩
   have HE0 := Lib.hid (And.intro hz hbw)
   clear hz hbw hrs hc HX HNA
   rcases hcase with hcn | ⟨hcn, hkey⟩
   ·go_wp2_with fail
    refine HNO.out.mono ?_
    rintro e w3 ⟨rfl, hrs, hst⟩
    have hz := (hst.block W.heap.size (by have := HB1.out; omega) (by have := HB1.out; omega)).trans HE0.out.1
    have hsz3 := hst.size
    have hb3 : base ≤ w3.heap.size := by have := HB1.out; omega
    have hz1 : (w3.alloc (.cells #[.int .i64 uc, .int .i64 uc] 39)).heap[W.heap.size]? = some zero4 := (heap_alloc_old _ _ (Array.getElem?_eq_some_iff.1 hz).1).trans hz
    have r0 := lk_cell (i := 0) hz1 rfl
    have r1 := lk_cell (i := 1) hz1 rfl
    have r2 := lk_cell (i := 2) hz1 rfl
    have r3 := lk_cell (i := 3) hz1 rfl
    have q0 : ∀ o, (w3.alloc (.cells #[.int .i64 uc, .int .i64 uc] 39)).frozen? ⟨W.heap.size, o, none⟩ = false := fun o => by simp only [World.frozen?, hz1]; simp
    have HE := Lib.hid (And.intro hz1 (And.intro hrs hst))
    clear hz hz1 hrs hst HNO
    go_wp2
    refine bodyPost_ret (v := .agg #[.bool true, .int .i64 uc, .slice (some ⟨w3.heap.size, 0, none⟩) 1 1, .int .i64 ((t : Int) + 2)]) (ret4 rfl rfl (set4_blk HE.out.1)) rfl ?_
    rw [HY.out]
    exact ⟨⟨_, _, _, _, _, _, rfl⟩, set4_rs (alloc_rs HE.out.2.1 _) (by have := HB1.out; omega) _ _ _ _, set4_stp (alloc_stp ((Stp.of_below (HB1.out.1.trans (HE0.out.2.mono (by have := HB1.out; omega))) HB1.out.2.2.2.2.1).trans (HE.out.2.2.lower (by have := HB1.out; omega))) hb3 _) HB1.out.2.2.2.2.1 _ _ _ _⟩
   ·go_wp2_with fail
    refine HNO.out.mono ?_
    rintro e w3 ⟨rfl, hrs, hst⟩
    have hz := (hst.block W.heap.size (by have := HB1.out; omega) (by have := HB1.out; omega)).trans HE0.out.1
    have hsz3 := hst.size
    have hb3 : base ≤ w3.heap.size := by have := HB1.out; omega
    have hz1 : (w3.alloc (.cells #[.int .i64 uc, .int .i64 uc] 39)).heap[W.heap.size]? = some zero4 := (heap_alloc_old _ _ (Array.getElem?_eq_some_iff.1 hz).1).trans hz
    have r0 := lk_cell (i := 0) hz1 rfl
    have r1 := lk_cell (i := 1) hz1 rfl
    have r2 := lk_cell (i := 2) hz1 rfl
    have r3 := lk_cell (i := 3) hz1 rfl
    have q0 : ∀ o, (w3.alloc (.cells #[.int .i64 uc, .int .i64 uc] 39)).frozen? ⟨W.heap.size, o, none⟩ = false := fun o => by simp only [World.frozen?, hz1]; simp
    have HE := Lib.hid (And.intro hz1 (And.intro hrs hst))
    clear hz hz1 hrs hst HNO
    go_wp2
    refine bodyPost_ret (v := .agg #[.bool true, .int .i64 uc, .slice (some ⟨w3.heap.size, 0, none⟩) 1 1, .int .i64 ((t : Int) + 2)]) (ret4 rfl rfl (set4_blk HE.out.1)) rfl ?_
    rw [HY.out]
    exact ⟨⟨_, _, _, _, _, _, rfl⟩, set4_rs (alloc_rs HE.out.2.1 _) (by have := HB1.out; omega) _ _ _ _, set4_stp (alloc_stp ((Stp.of_below (HB1.out.1.trans (HE0.out.2.mono (by have := HB1.out; omega))) HB1.out.2.2.2.2.1).trans (HE.out.2.2.lower (by have := HB1.out; omega))) hb3 _) HB1.out.2.2.2.2.1 _ _ _ _⟩
  ·have HY := Lib.hid (HX.out.trans (if_neg (fun hx => hc (HUA.out.1.1.2 hx))))
   have huu := HUA.out.1.2 (fun hx => hc (HUA.out.1.1.2 hx))
   have hcn : ¬ uc < 0 := fun hx => hc (.inl hx)
   have hkey : ((un : Int) != (a.size : Int)) = false := by
    rw [HUA.out.2.1, bne_eq_false_iff_eq]
    have : un = t - (p + 2) := Decidable.byContradiction fun hx => hc (.inr hx)
    omega
   subst us
   have hz1 : (w2.alloc (.cells #[.int .i64 uc, .int .i64 uc] 39)).heap[W.heap.size]? = some zero4 := (heap_alloc_old _ _ (Array.getElem?_eq_some_iff.1 hz).1).trans hz
   have r0 := lk_cell (i := 0) hz1 rfl
   have r1 := lk_cell (i := 1) hz1 rfl
   have r2 := lk_cell (i := 2) hz1 rfl
   have r3 := lk_cell (i := 3) hz1 rfl
   have q0 : ∀ o, (w2.alloc (.cells #[.int .i64 uc, .int .i64 uc] 39)).frozen? ⟨W.heap.size, o, none⟩ = false := fun o => by simp only [World.frozen?, hz1]; simp
   have HE := Lib.hid (And.intro hz1 (And.intro hbw hrs))
   clear hz hz1 hbw hrs hc HX HNA
   go_wp2
   refine bodyPost_ret (v := .agg #[.bool true, .int .i64 uc, .slice (some ⟨w2.heap.size, 0, none⟩) 1 1, .int .i64 ((t : Int) + 2)]) (ret4 rfl rfl (set4_blk HE.out.1)) rfl ?_
   rw [HY.out]
   have hlo : W.heap.size ≤ w2.heap.size := by have := HB1.out; omega
   have hne : ∀ k, (Value.slice (some ⟨w2.heap.size, 0, none⟩) 1 1).ownBlock = some k → k ≠ W.heap.size := fun k hk => by
    have hk2 : w2.heap.size = k := by simpa [Value.ownBlock] using hk
    have := HB1.out
    omega
   have hrow := set4_row (g := W.heap.size) (Row.one w2 uc (by have := HUA.out.2.2; omega)) hne (.bool true) (.int .i64 uc) (.slice (some ⟨w2.heap.size, 0, none⟩) 1 1) (.int .i64 ((t : Int) + 2))
   exact ⟨some ⟨w2.heap.size, 0, none⟩, 1, rfl, hrow.lower hlo, set4_below (((HB1.out.1).trans (HE.out.2.1.mono (by have := HB1.out; omega))).alloc hlo _) (Nat.le_refl _) _ _ _ _⟩
end Go.Proofs.YtamhkdlcoghdbaaGreatDoor.PCls
