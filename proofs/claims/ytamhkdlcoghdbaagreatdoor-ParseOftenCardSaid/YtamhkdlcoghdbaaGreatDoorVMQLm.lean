/- Put together (wip/tools/pack.py): QLm, QLp, QLb, QLn. -/
import Derived.Test.YtamhkdlcoghdbaaGreatDoorVMQPa
/- Out of Lm (wip/tools/prune2.py): the declarations alone that the texts of the trees name. -/
namespace Go.Proofs.YtamhkdlcoghdbaaGreatDoor.PCls
open Go.RowKit Go.Shelf Go.Proofs.YtamhkdlcoghdbaaGreatDoorW.PrintWords Go.Proofs.YtamhkdlcoghdbaaGreatDoorW.PrintLast Go.Proofs.YtamhkdlcoghdbaaGreatDoorW.PrintMore
set_option linter.unusedVariables false
set_option linter.unusedSimpArgs false
def tokV (t : Tok) (rv : Value) : List Value := [.int .i64 t.kind, .int .i64 t.sat, .int .i64 t.fin, .int .i64 t.n, .int .i64 t.lo, .int .i64 t.hi, rv]
def flat7 (cs : Nat → List Value) : Nat → List Value
 | 0 => []
 | n + 1 => flat7 cs n ++ cs n
theorem flat7_length (cs : Nat → List Value) : ∀ n, (∀ j, j < n → (cs j).length = 7) → (flat7 cs n).length = n * 7
 | 0, _ => rfl
 | n + 1, h => by
  simp only [flat7, List.length_append]
  rw [flat7_length cs n (fun j hj => h j (by omega)), h n (by omega)]
  omega
theorem flat7_at (cs : Nat → List Value) : ∀ n, (∀ j, j < n → (cs j).length = 7) → ∀ j, j < n → ∀ i, i < 7 → (flat7 cs n)[j * 7 + i]? = (cs j)[i]?
 | 0, _, j, hj, _, _ => by omega
 | n + 1, h, j, hj, i, hi => by
  have hl := flat7_length cs n (fun j hj => h j (by omega))
  simp only [flat7]
  rcases Nat.lt_or_ge j n with hjn | hjn
  ·rw [List.getElem?_append_left (by rw [hl]; omega)]
   exact flat7_at cs n (fun j hj => h j (by omega)) j hjn i hi
  ·obtain rfl : j = n := by omega
   rw [List.getElem?_append_right (by rw [hl]; omega), hl]
   congr 1
   omega
theorem flat7_congr {cs cs' : Nat → List Value} : ∀ n, (∀ i, i < n → cs i = cs' i) → flat7 cs n = flat7 cs' n
 | 0, _ => rfl
 | n + 1, h => by
  simp only [flat7]
  rw [flat7_congr n (fun i hi => h i (by omega)), h n (by omega)]
theorem ownMove {A B : World} {base : Nat} {e : TypeId} {size n : Nat} {v : Value} {xs : List Value} (h : A.ownsRow base e size v n xs) (hk : ∀ k, v.ownBlock = some k → B.heap[k]? = A.heap[k]?) : B.ownsRow base e size v n xs := by
 refine ⟨h.1, ?_⟩
 rcases h.2 with h2 | ⟨g, cap, cur, rfl, hb, hh, h3⟩
 ·exact .inl h2
 ·exact .inr ⟨g, cap, cur, rfl, hb, (hk g rfl).trans hh, h3⟩
theorem ownLt {A : World} {base : Nat} {e : TypeId} {size n : Nat} {v : Value} {xs : List Value} (h : A.ownsRow base e size v n xs) (k : Nat) (hk : v.ownBlock = some k) : base ≤ k ∧ k < A.heap.size := by
 rcases h.2 with ⟨rfl, _⟩ | ⟨g, cap, cur, rfl, hb, hh, h3⟩
 ·cases hk
 ·cases hk; exact ⟨hb, (Array.getElem?_eq_some_iff.1 hh).1⟩
/-- ranges of a token -/
def RanAt (W : World) (base : Nat) (V v : Value) (r : List S64) : Prop := W.ownsRow base 39 2 v r.length (rowOf r) ∧ inR r = true ∧ r.length < 8796093022208 ∧ ∀ k, v.ownBlock = some k → V.ownBlock ≠ some k
/-- tokens in memory -/
def ToksAt (W : World) (base : Nat) (V : Value) (out : List Tok) : Prop :=
 ∃ (cs : Nat → List Value) (rv : Nat → Value), (∀ j, j < out.length → (cs j).length = 7) ∧ W.ownsRow base 37 7 V out.length (flat7 cs out.length) ∧
  ∀ j t, out[j]? = some t → cs j = tokV t (rv j) ∧ RanAt W base V (rv j) t.r ∧ ∀ i, i < j → ∀ k, (rv j).ownBlock = some k → (rv i).ownBlock ≠ some k
theorem ToksAt.move {A B : World} {base : Nat} {V : Value} {out : List Tok} (h : ToksAt A base V out) (hb : ∀ k, base ≤ k → k < A.heap.size → B.heap[k]? = A.heap[k]?) : ToksAt B base V out := by
 obtain ⟨cs, rv, h1, h2, h3⟩ := h
 refine ⟨cs, rv, h1, ownMove h2 (fun k hk => hb k (ownLt h2 k hk).1 (ownLt h2 k hk).2), fun j t ht => ?_⟩
 obtain ⟨e, ⟨o1, o2, o3, o4⟩, hd⟩ := h3 j t ht
 exact ⟨e, ⟨ownMove o1 (fun k hk => hb k (ownLt o1 k hk).1 (ownLt o1 k hk).2), o2, o3, o4⟩, hd⟩
theorem ToksAt.nil (W : World) (base : Nat) : ToksAt W base (.slice none 0 0) [] := ⟨fun _ => [], fun _ => .slice none 0 0, fun i h => by simp at h, ⟨rfl, .inl ⟨rfl, rfl⟩⟩, fun i t h => by simp at h⟩
theorem ToksAt.form {W : World} {base : Nat} {V : Value} {out : List Tok} (h : ToksAt W base V out) : ∃ A c, V = .slice A out.length c ∧ out.length ≤ c ∧ ∀ j t, out[j]? = some t → ∃ g, A = some ⟨g, 0, none⟩ ∧ ∃ rv, ∀ i u, (tokV t rv)[i]? = some u → W.cell? ⟨g, j * 7 + i, none⟩ = some u := by
 obtain ⟨cs, rv, h1, h2, h3⟩ := h
 have hl := flat7_length cs out.length h1
 rcases h2.2 with ⟨rfl, h0⟩ | ⟨g, cap, cur, rfl, hb, hh, hc, hm, hs, ht⟩
 ·refine ⟨none, 0, by rw [h0], by omega, fun j t ht => ?_⟩
  have := (List.getElem?_eq_some_iff.1 ht).1
  omega
 ·refine ⟨_, cap, rfl, hc, fun j t hj => ⟨g, rfl, rv j, fun i u hu => ?_⟩⟩
  have hjl := (List.getElem?_eq_some_iff.1 hj).1
  have hi : i < 7 := by have := (List.getElem?_eq_some_iff.1 hu).1; simpa [tokV] using this
  have h4 := flat7_at cs out.length h1 j hjl i hi
  rw [(h3 j t hj).1, hu, ← ht, List.getElem?_take] at h4
  split at h4
  ·exact lk_cell hh (by simpa using h4)
  ·cases h4
theorem info47 : (Tryz.prog.info? 37).map (fun i => (i.zero, i.size, i.bytes)) = some (some (.agg #[.int .i64 0, .int .i64 0, .int .i64 0, .int .i64 0, .int .i64 0, .int .i64 0, .slice none 0 0]), 7, 72) := by kernel_rfl
theorem tokV_one (t : Tok) (rv : Value) (h : rv.oneCell' = true) : ∀ u ∈ tokV t rv, u.oneCell' = true := by
 intro u hu
 simp only [tokV, List.mem_cons, List.not_mem_nil, or_false] at hu
 rcases hu with rfl | rfl | rfl | rfl | rfl | rfl | rfl <;> first | rfl | exact h
theorem own_one {W : World} {base : Nat} {e : TypeId} {size n : Nat} {v : Value} {xs : List Value} (h : W.ownsRow base e size v n xs) : v.oneCell' = true := by
 rcases h.2 with ⟨rfl, _⟩ | ⟨g, cap, cur, rfl, _⟩ <;> rfl
/-- a token more -/
theorem ToksAt.append {W0 X : World} {base : Nat} {V : Value} {out : List Tok} (h0 : ToksAt W0 base V out) (hb0 : Below W0.heap.size W0 X) (hbase : base ≤ W0.heap.size) (hlen : out.length < 1000000) (ad : Addr) (t : Tok) (rv0 : Value)
  (hz : ∀ j u, (tokV t rv0)[j]? = some u → X.cell? (ad.add j) = some u) (hr : X.ownsRow W0.heap.size 39 2 rv0 t.r.length (rowOf t.r)) (hin : inR t.r = true) (hrl : t.r.length < 8796093022208) :
  ∃ (v' : Value) (W : World), (Builtin.append_ #[25, 25] 25 #[V, .slice (some ad) 1 1]).run Tryz.prog X = .ok v' W ∧ ToksAt W base v' (out ++ [t]) ∧ X.grownBy W V.ownBlock ∧ (v'.ownBlock = V.ownBlock ∨ v'.ownBlock = some X.heap.size) := by
 obtain ⟨i0, hi, hz0, hz1, hz2⟩ := info_parts info47
 obtain ⟨cs, rv, h1, h2, h3⟩ := h0
 have h2X : X.ownsRow base 37 7 V out.length (flat7 cs out.length) := ownMove h2 (fun k hk => hb0.block k (ownLt h2 k hk).2)
 obtain ⟨v', W, hrun, hown, hgrow, hnil, hat⟩ := run_append_own_at X base 25 25 37 i0 _ 7 72 Tryz.underlying25 hi hz0 hz1 hz2 rfl (by decide) V out.length (flat7 cs out.length) h2X ad 1 1 (tokV t rv0) rfl hz (tokV_one t rv0 (own_one hr)) (by unfold maxLen; omega) (by omega) (by have := hb0.size; omega)
 have hV : ∀ k, V.ownBlock = some k → k < W0.heap.size := fun k hk => (ownLt h2 k hk).2
 have hK : ∀ k, rv0.ownBlock = some k → W0.heap.size ≤ k ∧ k < X.heap.size := fun k hk => ownLt hr k hk
 have hne : ∀ k, k < X.heap.size → V.ownBlock ≠ some k → v'.ownBlock ≠ some k := fun k hk hn e => by
  rcases hat with ha | ha
  ·rw [ha] at e; exact hn e
  ·rw [ha] at e; cases e; omega
 refine ⟨v', W, hrun, ⟨fun j => if j = out.length then tokV t rv0 else cs j, fun j => if j = out.length then rv0 else rv j, ?_, ?_, ?_⟩, hgrow, hat⟩
 ·intro j hj
  simp only
  split
  ·rfl
  ·rw [List.length_append, List.length_singleton] at hj; exact h1 j (by omega)
 ·rw [List.length_append, List.length_singleton]
  show W.ownsRow base 37 7 v' (out.length + 1) (flat7 _ out.length ++ _)
  rw [show (fun j => if j = out.length then tokV t rv0 else cs j) out.length = tokV t rv0 from if_pos rfl, flat7_congr (cs' := cs) out.length (fun i hi => if_neg (by omega))]
  exact hown
 ·intro j u hj
  rcases Nat.lt_or_ge j out.length with hlt | hge
  ·rw [List.getElem?_append_left hlt] at hj
   obtain ⟨e, ⟨o1, o2, o3, o4⟩, hd⟩ := h3 j u hj
   simp only
   rw [if_neg (by omega), if_neg (by omega)]
   refine ⟨e, ⟨ownMove o1 (fun k hk => ?_), o2, o3, fun k hk => hne k (Nat.lt_of_lt_of_le (ownLt o1 k hk).2 hb0.size) (o4 k hk)⟩, fun i hi k hk => ?_⟩
   ·have hk2 := ownLt o1 k hk
    exact (hgrow.block k (Nat.lt_of_lt_of_le hk2.2 hb0.size) (fun e => o4 k hk e.symm)).trans (hb0.block k hk2.2)
   ·rw [if_neg (by omega)]; exact hd i hi k hk
  ·have hjl := (List.getElem?_eq_some_iff.1 hj).1
   rw [List.length_append, List.length_singleton] at hjl
   obtain rfl : j = out.length := by omega
   rw [List.getElem?_append_right (Nat.le_refl _), Nat.sub_self] at hj
   obtain rfl : t = u := by simpa using hj
   simp only [if_true]
   have hnV : ∀ k, rv0.ownBlock = some k → V.ownBlock ≠ some k := fun k hk e => by
    have := hV k e
    have := (hK k hk).1
    omega
   refine ⟨trivial, ⟨?_, hin, hrl, fun k hk => hne k (hK k hk).2 (hnV k hk)⟩, fun i hi k hk => ?_⟩
   ·have ho : W.ownsRow W0.heap.size 39 2 rv0 t.r.length (rowOf t.r) := ownMove hr (fun k hk => hgrow.block k (hK k hk).2 (fun e => hnV k hk e.symm))
    refine ⟨ho.1, ?_⟩
    rcases ho.2 with h | ⟨g, cap, cur, e, hb, hh⟩
    ·exact .inl h
    ·exact .inr ⟨g, cap, cur, e, Nat.le_trans hbase hb, hh⟩
   ·rw [if_neg (by omega)]
    intro e
    obtain ⟨_, ⟨o1, _⟩, _⟩ := h3 i (out[i]) (List.getElem?_eq_getElem (by omega))
    have := (ownLt o1 k e).2
    have := (hK k hk).1
    omega
end Go.Proofs.YtamhkdlcoghdbaaGreatDoor.PCls
/- Out of Lp (wip/tools/prune2.py): the declarations alone that the texts of the trees name. -/
namespace Go.Proofs.YtamhkdlcoghdbaaGreatDoor.PCls
open Go.RowKit Go.Shelf Go.Proofs.YtamhkdlcoghdbaaGreatDoorW.PrintWords Go.Proofs.YtamhkdlcoghdbaaGreatDoorW.PrintLast Go.Proofs.YtamhkdlcoghdbaaGreatDoorW.PrintMore
set_option linter.unusedVariables false
set_option linter.unusedSimpArgs false
theorem _root_.Go.Below.cells {n : Nat} {A W : World} (h : Below n A W) : ∀ b o, b < n → W.cell? ⟨b, o, none⟩ = A.cell? ⟨b, o, none⟩ := fun b o hb => h.cell (p := ⟨b, o, none⟩) hb
/-- a scanner's state in memory -/
structure ScSt (W : World) (B base : Nat) (s : ByteArray) (chars fold : Bool) (x : Lx.St) (V : Value) : Prop where
 sc : Sc W B s chars fold x.sat V
 toks : ToksAt W base V x.out
 lt : B < base
 hb : base ≤ W.heap.size
 len : x.out.length ≤ x.sat
 sz : x.sat ≤ s.size
 ss : s.size ≤ 2000
theorem ScSt.below {A W : World} {B base : Nat} {s : ByteArray} {chars fold : Bool} {x : Lx.St} {V : Value} (h : ScSt A B base s chars fold x V) (hb : Below A.heap.size A W) : ScSt W B base s chars fold x V :=
 ⟨h.sc.below hb, h.toks.move (fun k _ hk => hb.block k hk), h.lt, Nat.le_trans h.hb hb.size, h.len, h.sz, h.ss⟩
/-- what a step leaves of the rest -/
structure Stp (W W' : World) (B base : Nat) : Prop where
 os : W'.os = W.os
 tape : W'.tape = W.tape
 output : W'.output = W.output
 size : W.heap.size ≤ W'.heap.size
 block : ∀ b, b < base → b ≠ B → W'.heap[b]? = W.heap[b]?
theorem Stp.trans {A B C : World} {b base : Nat} (h : Stp A B b base) (h' : Stp B C b base) : Stp A C b base :=
 ⟨h'.os.trans h.os, h'.tape.trans h.tape, h'.output.trans h.output, Nat.le_trans h.size h'.size, fun k h1 h2 => (h'.block k h1 h2).trans (h.block k h1 h2)⟩
theorem Stp.of_below {A W : World} {B base : Nat} (h : Below A.heap.size A W) (hb : base ≤ A.heap.size) : Stp A W B base :=
 ⟨h.os, h.tape, h.output, h.size, fun k h1 _ => h.block k (by omega)⟩
theorem Stp.below {A W : World} {B base n : Nat} (h : Stp A W B base) (hB : n ≤ B) (hb : n ≤ base) : Below n A W :=
 ⟨h.os, h.tape, h.output, h.size, fun k hk => h.block k (by omega) (by omega)⟩
theorem set_blk {W : World} {g : Nat} {t : TypeId} {cur : Array Value} (h : W.heap[g]? = some (.cells cur t (0, 0))) (o : Nat) (v : Value) : (W.setCell ⟨g, o, none⟩ v).heap[g]? = some (.cells (cur.setIfInBounds o v) t (0, 0)) := by
 simp only [World.setCell, Array.getElem?_modify]
 rw [h]
 simp
theorem put_end {W0 w3 W4 : World} {B base : Nat} {s : ByteArray} {chars fold : Bool} {x : Lx.St} {V v' : Value} {t : Tok} {e : Nat} (hst : ScSt W0 B base s chars fold x V) (hb : Below W0.heap.size W0 w3)
  (hsc : W4.heap[B]? = some (.cells #[.string s, .bool chars, .bool fold, .int .i64 x.sat, V] 75 (0, 0))) (ht : ToksAt W4 base v' (x.out ++ [t])) (hg : w3.grownBy W4 V.ownBlock) (h1 : x.sat < e) (h2 : e ≤ s.size) :
  ScSt ((W4.setCell ⟨B, 4, none⟩ v').setCell ⟨B, 3, none⟩ (.int .i64 e)) B base s chars fold ⟨e, x.out ++ [t]⟩ v' ∧ Stp W0 ((W4.setCell ⟨B, 4, none⟩ v').setCell ⟨B, 3, none⟩ (.int .i64 e)) B base := by
 have ho : ∀ k, k ≠ B → ((W4.setCell ⟨B, 4, none⟩ v').setCell ⟨B, 3, none⟩ (.int .i64 e)).heap[k]? = W4.heap[k]? := fun k hk => (Below.heap_setCell _ ⟨B, 3, none⟩ _ k hk).trans (Below.heap_setCell _ ⟨B, 4, none⟩ _ k hk)
 have hz : ((W4.setCell ⟨B, 4, none⟩ v').setCell ⟨B, 3, none⟩ (.int .i64 e)).heap.size = W4.heap.size := by simp [World.setCell]
 have hs := hg.size
 have hs0 := hb.size
 have hl := hst.len
 have hlt := hst.lt
 have hbb := hst.hb
 have hss := hst.sz
 refine ⟨⟨set_blk (set_blk hsc _ _) _ _, ht.move (fun k hk _ => ho k (by omega)), hlt, by omega, by simp; omega, h2, hst.ss⟩, ⟨hg.os.trans hb.os, hg.tape.trans hb.tape, hg.output.trans hb.output, by omega, fun k hk hkB => ?_⟩⟩
 have hVk : some k ≠ V.ownBlock := fun hV => by
  obtain ⟨cs, rv', g1, g2, g3⟩ := hst.toks
  have := (ownLt g2 k hV.symm).1
  omega
 exact (ho k hkB).trans ((hg.block k (by omega) hVk).trans (hb.block k (by omega)))
set_option maxHeartbeats 4000000 in
set_option maxRecDepth 100000 in
theorem lput_calls (W0 W : World) (B base : Nat) (s : ByteArray) (chars fold : Bool) (x : Lx.St) (V : Value) (hst : ScSt W0 B base s chars fold x V) (hb : Below W0.heap.size W0 W) (kind n lo hi : Int) (r : List S64) (rv : Value)
  (hr : W.ownsRow W0.heap.size 39 2 rv r.length (rowOf r)) (hin : inR r = true) (hrl : r.length < 8796093022208) (e : Nat) (he1 : x.sat < e) (he2 : e ≤ s.size) :
  Calls Tryz.prog 96 #[.pointer (some ⟨B, 0, none⟩), .agg #[.int .i64 kind, .int .i64 0, .int .i64 0, .int .i64 n, .int .i64 lo, .int .i64 hi, rv], .int .i64 e] W fun e' w' => e' = .returned (.tuple #[]) ∧ ∃ V', ScSt w' B base s chars fold (Lx.put x ⟨kind, 0, 0, n, lo, hi, r⟩ e) V' ∧ Stp W0 w' B base := by
 have hsc := hst.sc.below hb
 have c3 := hsc.c3
 have c4 := hsc.c4
 have hBs : B < W.heap.size := (Array.getElem?_eq_some_iff.1 hsc).1
 have hf : ∀ o, W.frozen? ⟨B, o, none⟩ = false := fun o => by simp [World.frozen?, show W.heap[B]? = _ from hsc]
 have HST := Lib.hid hst
 have HB := Lib.hid hb
 have HR := Lib.hid (And.intro hr (And.intro hin hrl))
 have HE := Lib.hid (And.intro he1 he2)
 clear hst hb hr hin hrl he1 he2 hsc
 go_enter Tryz.func96, Tryz.ntmps96
 go_wp2_with fail
 obtain ⟨W1, hW1⟩ : ∃ X, X = W.alloc (.cells #[.int .i64 kind, .int .i64 x.sat, .int .i64 e, .int .i64 n, .int .i64 lo, .int .i64 hi, rv] 37) := ⟨_, rfl⟩
 obtain ⟨G, hG⟩ : ∃ G, G = W.heap.size := ⟨_, rfl⟩
 have hs1 : W1.heap.size = G + 1 := by rw [hW1, hG]; simp
 have hb1 : Below G W W1 := by rw [hW1, hG]; exact (Below.refl _ W).alloc (Nat.le_refl _) _
 have hk : W1.heap[G]? = some (.cells #[.int .i64 kind, .int .i64 x.sat, .int .i64 e, .int .i64 n, .int .i64 lo, .int .i64 hi, rv] 37 (0, 0)) := by rw [hW1, hG]; exact heap_alloc_new W _
 rw [← hW1, ← hG]
 have HB1 := Lib.hid (HB.out.trans (hb1.mono (by rw [hG]; exact HB.out.size)))
 have hbG : Below W.heap.size W W1 := by rw [← hG]; exact hb1
 have c4' := hbG.cell (p := ⟨B, 4, none⟩) hBs
 rw [c4] at c4'
 have hB1 : B < W1.heap.size := by omega
 have hG1 : G < W1.heap.size := by omega
 have HK := Lib.hid hk
 have HS := Lib.hid (And.intro hs1 (And.intro hG hbG))
 have g0 := lk_cell (i := 0) hk rfl
 have g1 := lk_cell (i := 1) hk rfl
 have g2 := lk_cell (i := 2) hk rfl
 have g3 := lk_cell (i := 3) hk rfl
 have g4 := lk_cell (i := 4) hk rfl
 have g5 := lk_cell (i := 5) hk rfl
 have g6 := lk_cell (i := 6) hk rfl
 clear hW1 hs1 hb1 hk hG hbG c3 c4 hf hBs
 refine go_start (fun w' => Below W1.heap.size W1 w') [7, 10] [.p 0, .p 1, .p 2, .p 3, .t 4, .t 5, .o 6, .z 7, .p 8, .p 9, .z 10] (by kernel_rfl) (by kernel_rfl) (fun c d v a w h => by cases d <;> exact h) ((Below.refl _ W1).drew) (fun w2 hS2 => ?_)
 repeat
  refine go_p (v := ?_) (b := ?_) rfl (.inl ⟨by rfl, ?_⟩) ?_ ?_
  rotate_left 2
  ·intro w'; go_simp; with_reducible rfl
  ·simp only [Act.put, pu_, pz_, ps_, i64_w, i32_w]; rfl
 repeat
  refine go_t (v := ?_) (b := ?_) rfl (.inl ⟨by rfl, ?_⟩) ?_ ?_
  rotate_left 2
  ·intro w' hS; have hc := Below.cells hS; go_simp; with_reducible rfl
  ·simp only [Act.put, pu_, pz_, ps_, i64_w, i32_w]; rfl
 refine go_val (v := .slice (some ⟨w2.heap.size, 0, none⟩) 1 1) (w1 := w2.alloc (.cells #[.int .i64 kind, .int .i64 x.sat, .int .i64 e, .int .i64 n, .int .i64 lo, .int .i64 hi, rv] 37)) rfl (by rfl) (by go_simp; first | done | rfl) (by simp only [Act.put, List.setIfInBounds_toArray, List.set_cons_zero, List.set_cons_succ]; rfl) (hS2.alloc hS2.size _) ?_
 obtain ⟨w3, hw3⟩ : ∃ X, X = w2.alloc (.cells #[.int .i64 kind, .int .i64 x.sat, .int .i64 e, .int .i64 n, .int .i64 lo, .int .i64 hi, rv] 37) := ⟨_, rfl⟩
 have hb3 : Below W1.heap.size W1 w3 := by rw [hw3]; exact hS2.alloc hS2.size _
 have hk3 : w3.heap[w2.heap.size]? = some (.cells #[.int .i64 kind, .int .i64 x.sat, .int .i64 e, .int .i64 n, .int .i64 lo, .int .i64 hi, rv] 37 (0, 0)) := by rw [hw3]; exact heap_alloc_new w2 _
 rw [← hw3]
 have hB3 : Below W0.heap.size W0 w3 := HB1.out.trans (hb3.mono HB1.out.size)
 have hr3 : w3.ownsRow W0.heap.size 39 2 rv r.length (rowOf r) := ownMove HR.out.1 (fun k hk => by
  have h1 := (ownLt HR.out.1 k hk).2
  have h2 := HS.out
  exact (hb3.block k (by omega)).trans (h2.2.2.block k h1))
 obtain ⟨v', W4, hrun, htoks, hgrow, hat⟩ := HST.out.toks.append hB3 HST.out.hb (by have h1 := HST.out.len; have h2 := HST.out.sz; have h3 := HST.out.ss; omega) ⟨w2.heap.size, 0, none⟩ ⟨kind, x.sat, e, n, lo, hi, r⟩ rv
  (fun j u hj => by
   rw [show (⟨w2.heap.size, 0, none⟩ : Addr).add j = ⟨w2.heap.size, j, none⟩ by unfold Addr.add; split <;> simp_all]
   exact lk_cell hk3 (by simpa [tokV] using hj)) hr3 HR.out.2.1 HR.out.2.2
 obtain ⟨A', c', hv', hc', _⟩ := htoks.form
 rw [List.length_append, List.length_singleton] at hv'
 subst hv'
 refine go_valz (w1 := W4) rfl (by rfl) (append_run rfl rfl hrun) (by simp only [Act.put, List.setIfInBounds_toArray, List.set_cons_zero, List.set_cons_succ]; rfl) ?_
 repeat
  refine go_p (v := ?_) (b := ?_) rfl (.inl ⟨by rfl, ?_⟩) ?_ ?_
  rotate_left 2
  ·intro w'; go_simp; with_reducible rfl
  ·simp only [Act.put, pu_, pz_, ps_, i64_w, i32_w]; rfl
 have hVB : some B ≠ V.ownBlock := fun hV => by
  obtain ⟨cs, rv', h1, h2, h3⟩ := HST.out.toks
  have := (ownLt h2 B hV.symm).1
  have := HST.out.lt
  omega
 have hBw : B < W0.heap.size := by have h1 := HST.out.lt; have h2 := HST.out.hb; omega
 have hsc4 : W4.heap[B]? = some (.cells #[.string s, .bool chars, .bool fold, .int .i64 x.sat, V] 75 (0, 0)) := (hgrow.block B (Nat.lt_of_lt_of_le hBw hB3.size) hVB).trans ((hB3.block B hBw).trans HST.out.sc)
 have HF := Lib.hid (And.intro hsc4 (And.intro htoks (And.intro hgrow (And.intro hat hB3))))
 have c4 := lk_cell (i := 4) hsc4 rfl
 have c3 := lk_cell (i := 3) hsc4 rfl
 have hf : ∀ o, W4.frozen? ⟨B, o, none⟩ = false := fun o => by simp [World.frozen?, hsc4]
 clear hrun htoks hgrow hat hsc4 hr3 hk3 hb3 hw3 c4' hc' g0 g1 g2 g3 g4 g5 g6 hB3
 refine go_skipz (w1 := W4.setCell ⟨B, 4, none⟩ _) rfl (by rfl) (by go_simp; first | done | rfl) ?_
 refine go_done ?_
 go_wp2_with fail
 have hend := put_end HST.out HF.out.2.2.2.2 HF.out.1 HF.out.2.1 HF.out.2.2.1 HE.out.1 HE.out.2
 go_end0
 exact ⟨rfl, _, hend⟩
end Go.Proofs.YtamhkdlcoghdbaaGreatDoor.PCls
/- Out of Lb (wip/tools/prune2.py): the declarations alone that the texts of the trees name. -/
namespace Go.Proofs.YtamhkdlcoghdbaaGreatDoor.PCls
open Go.RowKit Go.Shelf Go.Proofs.YtamhkdlcoghdbaaGreatDoorW.PrintWords Go.Proofs.YtamhkdlcoghdbaaGreatDoorW.PrintLast Go.Proofs.YtamhkdlcoghdbaaGreatDoorW.PrintMore
set_option linter.unusedVariables false
set_option linter.unusedSimpArgs false
set_option maxHeartbeats 4000000 in
set_option maxRecDepth 100000 in
theorem last_calls (W : World) (B base : Nat) (s : ByteArray) (chars fold : Bool) (x : Lx.St) (V : Value) (h : ScSt W B base s chars fold x V) :
    Calls Tryz.prog 152 #[.pointer (some ⟨B, 0, none⟩)] W fun e w' => e = .returned (.int .i64 (Lx.last x)) ∧ Below W.heap.size W w' := by
  obtain ⟨A, c, rfl, hc, hA⟩ := h.toks.form
  have c4 := h.sc.c4
  have hlen := h.len
  have hsz := h.sz
  have hss := h.ss
  have hlt : B < W.heap.size := (Array.getElem?_eq_some_iff.1 h.sc).1
  by_cases h0 : x.out.length = 0
  · have HX := Lib.hid (show Lx.last x = 0 by unfold Lx.last; rw [List.length_eq_zero_iff.1 h0]; rfl)
    rw [h0] at c4
    clear h hA hlen hsz hss h0 hc
    go_enter Tryz.func152, Tryz.ntmps152
    go_wp2_with fail
    go_ret
    exact ⟨by rw [HX.out]; rfl, Below.refl _ _⟩
  · obtain ⟨t, ht⟩ : ∃ t, x.out[x.out.length - 1]? = some t := ⟨_, List.getElem?_eq_getElem (by omega)⟩
    have HX := Lib.hid (show Lx.last x = t.kind by unfold Lx.last; rw [List.getLast?_eq_getElem?, ht])
    obtain ⟨g, rfl, rv, hcell⟩ := hA _ t ht
    have ck := hcell 0 _ rfl
    have hg : g < W.heap.size := by
      unfold World.cell? at ck
      cases hh : W.heap[g]? with
      | none => simp [hh] at ck
      | some o => exact (Array.getElem?_eq_some_iff.1 hh).1
    have e1 : IntKind.i64.wrap ((x.out.length : Int) - 1) = (x.out.length : Int) - 1 := IntWalk.i64_in _ (by omega)
    have e2 : (0 : Int) ≤ (x.out.length : Int) - 1 := by omega
    have e2a : (1 : Int) ≤ (x.out.length : Int) := by omega
    have e2b : 1 ≤ x.out.length := by omega
    have e2c : 0 < x.out.length := by omega
    have e3 : (x.out.length : Int) - 1 < (x.out.length : Int) := by omega
    have e4 : ((x.out.length : Int) - 1).toNat = x.out.length - 1 := by omega
    have e5 : ((x.out.length : Int) == 0) = false := by rw [beq_eq_false_iff_ne]; omega
    have e6 : ¬ x.out = [] := fun h => by rw [h] at h0; exact h0 rfl
    obtain ⟨N, hN⟩ : ∃ N, N = x.out.length - 1 := ⟨_, rfl⟩
    rw [← hN] at ck e4
    rw [Nat.add_zero] at ck
    clear h hA hlen hsz hss ht hcell h0 hN
    go_enter Tryz.func152, Tryz.ntmps152
    go_wp2_with fail
    refine go_start (fun w' => Below W.heap.size W w') [] [.p 0, .p 1, .p 2, .t 3, .p 4, .p 5, .p 6, .t 7, .p 8, .p 9, .p 10, .p 11, .t 12, .p 13] (by kernel_rfl) (by kernel_rfl) (fun c d v a w h => by cases d <;> exact h) ((Below.refl _ W).drew) (fun w2 hS2 => ?_)
    repeat
      first
        | (refine go_p (v := ?_) (b := ?_) rfl (.inl ⟨by rfl, ?_⟩) ?_ ?_
           rotate_left 2
           · intro w'; go_simp; with_reducible rfl
           · simp only [Act.put, List.setIfInBounds_toArray, List.set_cons_zero, List.set_cons_succ]; rfl)
        | (refine go_t (v := ?_) (b := ?_) rfl (.inl ⟨by rfl, ?_⟩) ?_ ?_
           rotate_left 2
           · intro w' hS; have hc := Below.cells hS; go_simp; with_reducible rfl
           · simp only [Act.put, List.setIfInBounds_toArray, List.set_cons_zero, List.set_cons_succ]; rfl)
    refine go_done ?_
    go_wp2_with fail
    go_ret
    exact ⟨by rw [HX.out]; rfl, hS2⟩
set_option maxHeartbeats 4000000 in
theorem opens_calls (W : World) (B base : Nat) (s : ByteArray) (chars fold : Bool) (x : Lx.St) (V : Value) (h : ScSt W B base s chars fold x V) :
    Calls Tryz.prog 99 #[.pointer (some ⟨B, 0, none⟩)] W fun e w' => e = .returned (.bool (Lx.opens x)) ∧ Below W.heap.size W w' := by
  have HL := Lib.hid (last_calls W B base s chars fold x V h)
  have HO := Lib.hid (show Lx.opens x = (decide (Lx.last x = 0) || decide (Lx.last x = 3) || decide (Lx.last x = 5)) from rfl)
  obtain ⟨k, hk⟩ : ∃ k, k = Lx.last x := ⟨_, rfl⟩
  rw [← hk] at HL HO
  clear h hk
  by_cases h0 : k = 0
  · subst h0
    go_enter Tryz.func99, Tryz.ntmps99
    go_wp2_with fail
    refine HL.out.mono ?_
    rintro e w2 ⟨rfl, hb⟩
    have HB := Lib.hid hb
    clear hb HL
    go_wp2_with fail
    go_ret
    exact ⟨by rw [HO.out]; rfl, HB.out⟩
  · by_cases h3 : k = 3
    · subst h3
      go_enter Tryz.func99, Tryz.ntmps99
      go_wp2_with fail
      refine HL.out.mono ?_
      rintro e w2 ⟨rfl, hb⟩
      have HB := Lib.hid hb
      clear hb HL h0
      go_wp2_with fail
      go_ret
      exact ⟨by rw [HO.out]; rfl, HB.out⟩
    · have b0 : ((k : Int) == 0) = false := by rw [beq_eq_false_iff_ne]; exact h0
      have b3 : ((k : Int) == 3) = false := by rw [beq_eq_false_iff_ne]; exact h3
      have HO2 := Lib.hid (show Lx.opens x = (k == 5) by rw [HO.out, decide_eq_false h0, decide_eq_false h3]; rfl)
      clear h0 h3
      go_enter Tryz.func99, Tryz.ntmps99
      go_wp2_with fail
      refine HL.out.mono ?_
      rintro e w2 ⟨rfl, hb⟩
      have HB := Lib.hid hb
      clear hb HL
      go_wp2_with fail
      go_ret
      exact ⟨by rw [HO2.out]; rfl, HB.out⟩
set_option maxHeartbeats 4000000 in
theorem begins_calls (W : World) (B base : Nat) (s : ByteArray) (chars fold : Bool) (x : Lx.St) (V : Value) (h : ScSt W B base s chars fold x V) :
    Calls Tryz.prog 98 #[.pointer (some ⟨B, 0, none⟩)] W fun e w' => e = .returned (.bool (Lx.begins x)) ∧ Below W.heap.size W w' := by
  have HL := Lib.hid (opens_calls W B base s chars fold x V h)
  have HN := Lib.hid (fun (W2 : World) (hb : Below W.heap.size W W2) => last_calls W2 B base s chars fold x V (h.below hb))
  have HO := Lib.hid (show Lx.begins x = (Lx.opens x || decide (Lx.last x = 7)) from rfl)
  obtain ⟨o, ho⟩ : ∃ k, k = Lx.opens x := ⟨_, rfl⟩
  obtain ⟨k, hk⟩ : ∃ k, k = Lx.last x := ⟨_, rfl⟩
  rw [← ho] at HL HO
  rw [← hk] at HN HO
  clear h hk ho
  cases o with
  | true =>
    go_enter Tryz.func98, Tryz.ntmps98
    go_wp2_with fail
    refine HL.out.mono ?_
    rintro e w2 ⟨rfl, hb⟩
    have HB := Lib.hid hb
    clear hb HL
    go_wp2_with fail
    go_ret
    exact ⟨by rw [HO.out]; rfl, HB.out⟩
  | false =>
    go_enter Tryz.func98, Tryz.ntmps98
    go_wp2_with fail
    refine HL.out.mono ?_
    rintro e w2 ⟨rfl, hb⟩
    have HB := Lib.hid hb
    clear hb HL
    go_wp2_with fail
    refine (HN.out w2 HB.out).mono ?_
    rintro e w3 ⟨rfl, hb⟩
    have HB3 := Lib.hid (HB.out.trans (hb.mono HB.out.size))
    clear hb HN
    go_wp2_with fail
    go_ret
    exact ⟨by rw [HO.out]; rfl, HB3.out⟩
end Go.Proofs.YtamhkdlcoghdbaaGreatDoor.PCls
/- Out of Ln (wip/tools/prune2.py): the declarations alone that the texts of the trees name. -/
namespace Go.Proofs.YtamhkdlcoghdbaaGreatDoor.PCls
open Go.RowKit Go.Shelf Go.Proofs.YtamhkdlcoghdbaaGreatDoorW.PrintWords Go.Proofs.YtamhkdlcoghdbaaGreatDoorW.PrintLast Go.Proofs.YtamhkdlcoghdbaaGreatDoorW.PrintMore
set_option linter.unusedVariables false
set_option linter.unusedSimpArgs false
theorem number_stop (s : ByteArray) (k p : Nat) (n : Int) (h : ¬ (p < s.size ∧ 48 ≤ Lx.byt s p ∧ Lx.byt s p ≤ 57)) : Lx.number s k p n = (n, p) := by
 cases k with
 | zero => rfl
 | succ k => unfold Lx.number; rw [if_neg h]
set_option maxHeartbeats 4000000 in
set_option maxRecDepth 100000 in
theorem number_calls (W : World) (B p : Nat) (s : ByteArray) (c0 : W.cell? ⟨B, 0, none⟩ = some (.string s)) (hs : s.size ≤ 2000) (hp : p ≤ 5000) :
  Calls Tryz.prog 210 #[.pointer (some ⟨B, 0, none⟩), .int .i64 p] W fun e w' => e = .returned (.tuple #[.int .i64 (Lx.number s (s.size + 1) p (-1)).1, .int .i64 (Lx.number s (s.size + 1) p (-1)).2]) ∧ w' = W := by
 obtain ⟨R, hR⟩ : ∃ R, R = Lx.number s (s.size + 1) p (-1) := ⟨_, rfl⟩
 rw [← hR]
 have HR := Lib.hid hR
 clear hR
 go_enter Tryz.func210, Tryz.ntmps210
 go_wp2_with fail
 go_loop [1, 6] (fun a n => ∃ (q k : Nat) (m : Int), a = .int .i64 q ∧ n = .int .i64 m ∧ q ≤ 5000 ∧ s.size < q + k ∧ -1 ≤ m ∧ m ≤ 256 ∧ Hid (R = Lx.number s k q m)) (fun a _ => s.size - (intOf a).toNat)
 case atStart => exact ⟨p, s.size + 1, -1, rfl, rfl, hp, by omega, by omega, by omega, HR⟩
 case round =>
  obtain ⟨q, k, m, rfl, rfl, hq, hk, hm0, hm1, HQ⟩ := hrel
  by_cases hlt : q < s.size
  ·have hi0 : (0 : Int) ≤ (q : Int) := by omega
   have hi1 : (q : Int) < (s.size : Int) := by omega
   have hbd := s[q].toNat_lt
   have hbe := byt_at s q hlt
   by_cases hd : 48 ≤ s[q].toNat ∧ s[q].toNat ≤ 57
   ·obtain ⟨hd1, hd2⟩ := hd
    obtain ⟨k, rfl⟩ : ∃ j, k = j + 1 := ⟨k - 1, by omega⟩
    have HX := Lib.hid (show R = Lx.number s k (q + 1) (min (max m 0 * 10 + ((s[q].toNat : Int) - 48)) 256) by
     rw [HQ.out]
     conv => lhs; unfold Lx.number
     rw [if_pos (by omega), hbe])
    have h1 : decide ((48 : Int) ≤ (s[q].toNat : Int)) = true := decide_eq_true (by omega)
    have h2 : decide ((s[q].toNat : Int) ≤ 57) = true := decide_eq_true (by omega)
    clear hbe
    go_wp2_with fail
    go_round
    case rel => exact ⟨q + 1, k, _, by go_num, rfl, by omega, by omega, by omega, by omega, HX⟩
    case measure => simp [intOf]; omega
   ·have HX := Lib.hid (show R = (m, q) by rw [HQ.out]; exact number_stop s k q m (by rw [hbe]; omega))
    clear hbe
    by_cases hd1 : 48 ≤ s[q].toNat
    ·have h1 : decide ((48 : Int) ≤ (s[q].toNat : Int)) = true := decide_eq_true (by omega)
     have h2 : decide ((s[q].toNat : Int) ≤ 57) = false := decide_eq_false (by omega)
     clear hd hd1 hbd
     go_wp2_with fail
     go_ret2
     exact ⟨by rw [HX.out]; rfl, rfl⟩
    ·have h1 : decide ((48 : Int) ≤ (s[q].toNat : Int)) = false := decide_eq_false (by omega)
     clear hd hd1 hbd
     go_wp2_with fail
     go_ret2
     exact ⟨by rw [HX.out]; rfl, rfl⟩
  ·have HX := Lib.hid (show R = (m, q) by rw [HQ.out]; exact number_stop s k q m (by omega))
   have h2 : s.size ≤ q := by omega
   go_wp2_with fail
   go_ret2
   exact ⟨by rw [HX.out]; rfl, rfl⟩
theorem number_le (s : ByteArray) : ∀ (k p : Nat) (n : Int), -1 ≤ n → n ≤ 256 → p ≤ (Lx.number s k p n).2 ∧ ((Lx.number s k p n).2 ≤ s.size ∨ (Lx.number s k p n).2 = p) ∧ -1 ≤ (Lx.number s k p n).1 ∧ (Lx.number s k p n).1 ≤ 256 ∧ (0 ≤ n → 0 ≤ (Lx.number s k p n).1)
 | 0, p, n, h0, h1 => by simp [Lx.number]; omega
 | k + 1, p, n, h0, h1 => by
  by_cases h : p < s.size ∧ 48 ≤ Lx.byt s p ∧ Lx.byt s p ≤ 57
  ·have e : Lx.number s (k + 1) p n = Lx.number s k (p + 1) (min (max n 0 * 10 + ((Lx.byt s p : Int) - 48)) 256) := by
    conv => lhs; unfold Lx.number
    rw [if_pos h]
   have ih := number_le s k (p + 1) (min (max n 0 * 10 + ((Lx.byt s p : Int) - 48)) 256) (by omega) (by omega)
   rw [e]
   refine ⟨by omega, .inl ?_, ih.2.2.1, ih.2.2.2.1, fun _ => ih.2.2.2.2 (by omega)⟩
   rcases ih.2.1 with h' | h' <;> omega
  ·rw [number_stop s (k + 1) p n h]
   exact ⟨Nat.le_refl _, .inr rfl, h0, h1, id⟩
theorem interval_eq {s : ByteArray} {q p a2 b2 : Nat} {a1 b1 : Int} (ha : (a1, a2) = Lx.number s (s.size + 1) p (-1)) (hb : (if 0 ≤ a1 ∧ Lx.here s a2 [44] = true then Lx.number s (s.size + 1) (a2 + 1) (-1) else (a1, a2)) = (b1, b2)) :
  Lx.interval s q p = if a1 < 0 ∨ Lx.here s b2 [92, 125] = false then .error (36, (q : Int)) else if 255 < a1 ∨ 255 < b1 ∨ (0 ≤ b1 ∧ b1 < a1) then .error (37, (q : Int)) else .ok (a1, b1, b2 + 2) := by
 unfold Lx.interval
 rw [← ha]
 simp only
 rw [hb]
/-- what a function that may give up tells -/
def Tells {α : Type} (w w' : World) (e : Ending) (r : Except Er α) (P : α → Prop) : Prop := Below w.heap.size w w' ∧ match r with
 | .error x => Bad w.heap.size w' e x.1 x.2
 | .ok a => P a
theorem Tells.err {α : Type} {w w' : World} {e : Ending} {r : Except Er α} {P : α → Prop} {x : Er} (h : r = .error x) (hb : Below w.heap.size w w') (hx : Bad w.heap.size w' e x.1 x.2) : Tells w w' e r P := by rw [h]; exact ⟨hb, hx⟩
theorem Tells.ok {α : Type} {w w' : World} {e : Ending} {r : Except Er α} {P : α → Prop} {a : α} (h : r = .ok a) (hb : Below w.heap.size w w') (hx : P a) : Tells w w' e r P := by rw [h]; exact ⟨hb, hx⟩
set_option maxHeartbeats 8000000 in
set_option maxRecDepth 100000 in
theorem interval_calls (W : World) (B p q : Nat) (s : ByteArray) (chars fold : Bool) (V : Value) (h : Sc W B s chars fold q V) (hs : s.size ≤ 2000) (hp : p ≤ 4000) :
  Calls Tryz.prog 191 #[.pointer (some ⟨B, 0, none⟩), .int .i64 p] W fun e w' => Tells W w' e (Lx.interval s q p) fun r => e = .returned (.tuple #[.int .i64 r.1, .int .i64 r.2.1, .int .i64 r.2.2]) ∧ w' = W := by
 have c0 := h.c0
 have c3 := h.c3
 clear h
 have HN := Lib.hid (fun p hp => number_calls W B p s c0 hs hp)
 have HH := Lib.hid (fun p t => here_calls W B p s t c0 (by omega))
 obtain ⟨a, ha⟩ : ∃ a, a = Lx.number s (s.size + 1) p (-1) := ⟨_, rfl⟩
 have hal := number_le s (s.size + 1) p (-1) (by omega) (by omega)
 rw [← ha] at hal
 have HA := Lib.hid ha
 clear ha
 obtain ⟨a1, a2⟩ := a
 simp only at hal
 obtain ⟨l1, l2, l3, l4, _⟩ := hal
 have hi0 : (0 : Int) ≤ (a2 : Int) := by omega
 have hi1 : (a2 : Int) ≤ 5000 := by omega
 have hA2 : a2 ≤ 4000 := by omega
 by_cases h0 : a1 < 0
 ·have HX := Lib.hid (show Lx.interval s q p = .error (36, (q : Int)) by
   unfold Lx.interval
   simp only [← HA.out]
   rw [if_pos (.inl h0)])
  have h0' : ¬ 0 ≤ a1 := by omega
  go_enter Tryz.func191, Tryz.ntmps191
  go_wp2_with fail
  refine (HN.out p (by omega)).mono ?_
  rw [← HA.out]
  rintro e w' ⟨rfl, rfl⟩
  clear HN HA
  go_wp2_with fail
  refine (fail_calls _ _ _).mono ?_
  rintro e w2 ⟨⟨g, rfl, hg⟩, hb⟩
  exact ⟨rfl, Tells.err HX.out hb ⟨g, rfl, hg⟩⟩
 ·have h0' : 0 ≤ a1 := by omega
  by_cases hc : Lx.here s a2 [44] = true
  ·obtain ⟨b, hb⟩ : ∃ b, b = Lx.number s (s.size + 1) (a2 + 1) (-1) := ⟨_, rfl⟩
   have hbl := number_le s (s.size + 1) (a2 + 1) (-1) (by omega) (by omega)
   rw [← hb] at hbl
   obtain ⟨b1, b2⟩ := b
   simp only at hbl
   obtain ⟨m1, m2, m3, m4, _⟩ := hbl
   have HB := Lib.hid hb
   have HI := Lib.hid (interval_eq (q := q) HA.out (b1 := b1) (b2 := b2) (by rw [if_pos ⟨h0', hc⟩, ← hb]))
   have HC := Lib.hid hc
   clear hb hc
   have hj0 : (0 : Int) ≤ (b2 : Int) := by omega
   have hj1 : (b2 : Int) ≤ 5000 := by omega
   have hB2 : b2 ≤ 5000 := by omega
   go_enter Tryz.func191, Tryz.ntmps191
   go_wp2_with fail
   refine (HN.out p (by omega)).mono ?_
   rw [← HA.out]
   rintro e w' ⟨rfl, rfl⟩
   go_wp2_with fail
   refine (HH.out a2 ⟨#[44]⟩).mono ?_
   rw [show Lx.here s a2 (⟨#[44]⟩ : ByteArray).data.toList = true from HC.out]
   rintro e w2 ⟨rfl, rfl⟩
   go_wp2_with fail
   refine (HN.out (a2 + 1) (by omega)).mono ?_
   rw [← HB.out]
   rintro e w3 ⟨rfl, rfl⟩
   go_wp2_with fail
   by_cases hd : Lx.here s b2 [92, 125] = true
   ·refine (HH.out b2 ⟨#[92, 125]⟩).mono ?_
    rw [show Lx.here s b2 (⟨#[92, 125]⟩ : ByteArray).data.toList = true from hd]
    rintro e w4 ⟨rfl, rfl⟩
    by_cases hcase : 255 < a1 ∨ 255 < b1 ∨ (0 ≤ b1 ∧ b1 < a1)
    ·have HE := Lib.hid (show Lx.interval s q p = .error (37, (q : Int)) by rw [HI.out, if_neg (by rw [hd]; simp; omega), if_pos hcase])
     have hc3 : 255 < a1 ∨ (¬ 255 < a1 ∧ 255 < b1) ∨ (¬ 255 < a1 ∧ ¬ 255 < b1 ∧ 0 ≤ b1 ∧ b1 < a1) := by omega
     clear hcase hd
     rcases hc3 with g1 | ⟨g1, g2⟩ | ⟨g1, g2, g3, g4⟩
     all_goals try (exfalso; omega)
     all_goals
      go_wp2_with fail
      refine (fail_calls _ _ _).mono ?_
      rintro e w5 ⟨⟨g, rfl, hg⟩, hb⟩
      exact ⟨rfl, Tells.err HE.out hb ⟨g, rfl, hg⟩⟩
    ·have HE := Lib.hid (show Lx.interval s q p = .ok (a1, b1, b2 + 2) by rw [HI.out, if_neg (by rw [hd]; simp; omega), if_neg hcase])
     have hc3 : (¬ 255 < a1 ∧ ¬ 255 < b1 ∧ ¬ 0 ≤ b1) ∨ (¬ 255 < a1 ∧ ¬ 255 < b1 ∧ 0 ≤ b1 ∧ ¬ b1 < a1) := by omega
     clear hcase hd
     rcases hc3 with ⟨g1, g2, g3⟩ | ⟨g1, g2, g3, g4⟩
     all_goals try (exfalso; omega)
     all_goals
      go_wp2_with fail
      go_ret3
      exact Tells.ok HE.out (Below.refl _ _) ⟨rfl, rfl⟩
   ·have hd' : Lx.here s b2 [92, 125] = false := by simpa using hd
    have HE := Lib.hid (show Lx.interval s q p = .error (36, (q : Int)) by rw [HI.out, if_pos (.inr hd')])
    refine (HH.out b2 ⟨#[92, 125]⟩).mono ?_
    rw [show Lx.here s b2 (⟨#[92, 125]⟩ : ByteArray).data.toList = false from hd']
    rintro e w4 ⟨rfl, rfl⟩
    clear hd hd'
    go_wp2_with fail
    refine (fail_calls _ _ _).mono ?_
    rintro e w5 ⟨⟨g, rfl, hg⟩, hb⟩
    exact ⟨rfl, Tells.err HE.out hb ⟨g, rfl, hg⟩⟩
  ·have HI := Lib.hid (interval_eq (q := q) HA.out (b1 := a1) (b2 := a2) (by rw [if_neg (fun h => hc h.2)]))
   have HC := Lib.hid (show Lx.here s a2 [44] = false by simpa using hc)
   clear hc
   go_enter Tryz.func191, Tryz.ntmps191
   go_wp2_with fail
   refine (HN.out p (by omega)).mono ?_
   rw [← HA.out]
   rintro e w' ⟨rfl, rfl⟩
   go_wp2_with fail
   refine (HH.out a2 ⟨#[44]⟩).mono ?_
   rw [show Lx.here s a2 (⟨#[44]⟩ : ByteArray).data.toList = false from HC.out]
   rintro e w2 ⟨rfl, rfl⟩
   go_wp2_with fail
   by_cases hd : Lx.here s a2 [92, 125] = true
   ·refine (HH.out a2 ⟨#[92, 125]⟩).mono ?_
    rw [show Lx.here s a2 (⟨#[92, 125]⟩ : ByteArray).data.toList = true from hd]
    rintro e w4 ⟨rfl, rfl⟩
    by_cases hcase : 255 < a1 ∨ 255 < a1 ∨ (0 ≤ a1 ∧ a1 < a1)
    ·have HE := Lib.hid (show Lx.interval s q p = .error (37, (q : Int)) by rw [HI.out, if_neg (by rw [hd]; simp; omega), if_pos hcase])
     have hc3 : 255 < a1 ∨ (¬ 255 < a1 ∧ 255 < a1) ∨ (¬ 255 < a1 ∧ ¬ 255 < a1 ∧ 0 ≤ a1 ∧ a1 < a1) := by omega
     clear hcase hd
     rcases hc3 with g1 | ⟨g1, g2⟩ | ⟨g1, g2, g3, g4⟩
     all_goals try (exfalso; omega)
     all_goals
      go_wp2_with fail
      refine (fail_calls _ _ _).mono ?_
      rintro e w5 ⟨⟨g, rfl, hg⟩, hb⟩
      exact ⟨rfl, Tells.err HE.out hb ⟨g, rfl, hg⟩⟩
    ·have HE := Lib.hid (show Lx.interval s q p = .ok (a1, a1, a2 + 2) by rw [HI.out, if_neg (by rw [hd]; simp; omega), if_neg hcase])
     have hc3 : (¬ 255 < a1 ∧ ¬ 255 < a1 ∧ ¬ 0 ≤ a1) ∨ (¬ 255 < a1 ∧ ¬ 255 < a1 ∧ 0 ≤ a1 ∧ ¬ a1 < a1) := by omega
     clear hcase hd
     rcases hc3 with ⟨g1, g2, g3⟩ | ⟨g1, g2, g3, g4⟩
     all_goals try (exfalso; omega)
     all_goals
      go_wp2_with fail
      go_ret3
      exact Tells.ok HE.out (Below.refl _ _) ⟨rfl, rfl⟩
   ·have hd' : Lx.here s a2 [92, 125] = false := by simpa using hd
    have HE := Lib.hid (show Lx.interval s q p = .error (36, (q : Int)) by rw [HI.out, if_pos (.inr hd')])
    refine (HH.out a2 ⟨#[92, 125]⟩).mono ?_
    rw [show Lx.here s a2 (⟨#[92, 125]⟩ : ByteArray).data.toList = false from hd']
    rintro e w4 ⟨rfl, rfl⟩
    clear hd hd'
    go_wp2_with fail
    refine (fail_calls _ _ _).mono ?_
    rintro e w5 ⟨⟨g, rfl, hg⟩, hb⟩
    exact ⟨rfl, Tells.err HE.out hb ⟨g, rfl, hg⟩⟩
end Go.Proofs.YtamhkdlcoghdbaaGreatDoor.PCls
