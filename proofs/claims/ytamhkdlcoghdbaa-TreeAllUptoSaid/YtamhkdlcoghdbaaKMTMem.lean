/- Put together (wip/tools/pack.py): KTMem, KZBulk, KTOpen. -/
import Derived.Test.YtamhkdlcoghdbaaKZGOne
import Derived.Deep.CondSized
/- Out of TMem (wip/tools/prune2.py): the declarations alone that the texts of the trees name. -/
namespace Go.Proofs.Ytamhkdlcoghdbaa.PCls
open Go.RowKit Go.Proofs.YtamhkdlcoghdbaaW.PrintWords Go.Proofs.YtamhkdlcoghdbaaW.PrintLast Go.Proofs.YtamhkdlcoghdbaaW.PrintMore
set_option linter.unusedVariables false
set_option linter.unusedSimpArgs false
/-- a tree lies in memory: its node's six cells; what is behind them lies in blocks of P -/
inductive NIn (w : World) (P : Nat → Prop) : NT → List Value → Prop
 | mk (k m lo hi : Int) (r : List S64) (kids : List NT) (ar ak : Option Addr) (cr ck : Nat) (cs : Nat → List Value)
  (hr : Kd.C k64 w ar r.length r) (hrb : ∀ ad, ar = some ad → r ≠ [] → P ad.block) (hcr : r.length ≤ cr) (hrl : r.length < 2097152) (hin : inR r = true)
  (hck : kids.length ≤ ck) (hkl : kids.length < 1099511627776)
  (hk : ∀ j t, kids[j]? = some t → NIn w P t (cs j))
  (ha : ∀ j, j < kids.length → ∃ ad, ak = some ad ∧ P ad.block ∧ ∀ i u, (cs j)[i]? = some u → w.cell? (ad.add (j * 6 + i)) = some u) :
  NIn w P (.mk k m lo hi r kids) [.int .i64 k, .int .i64 m, .int .i64 lo, .int .i64 hi, .slice ar r.length cr, .slice ak kids.length ck]
theorem add_block (ad : Addr) (i : Nat) : (ad.add i).block = ad.block := by unfold Addr.add; split <;> rfl
theorem add_at (ad : Addr) (n i : Nat) (h : 0 < i) : ad.add (n + i) = ⟨(ad.add n).block, (ad.add n).off + i, none⟩ := by
 unfold Addr.add
 rw [if_neg (by omega)]
 by_cases h0 : n = 0
 ·subst h0; simp
 ·rw [if_neg h0]; simp [Nat.add_assoc]
/-- a struct's cells, as a load asks for them -/
theorem cell_at {w : World} {ad : Addr} {n : Nat} {cs : List Value} (h : ∀ i u, cs[i]? = some u → w.cell? (ad.add (n + i)) = some u) (i : Nat) (hi : 0 < i) {u : Value} (hu : cs[i]? = some u) : w.cell? ⟨(ad.add n).block, (ad.add n).off + i, none⟩ = some u := by
 rw [← add_at ad n i hi]; exact h i u hu
theorem C_move {w w' : World} {P : Nat → Prop} {a : Option Addr} {l : List S64} (h : Kd.C k64 w a l.length l) (hb : ∀ ad, a = some ad → l ≠ [] → P ad.block) (hm : ∀ b, P b → w'.heap[b]? = w.heap[b]?) : Kd.C k64 w' a l.length l := by
 refine ⟨h.1, h.2.1, fun hp => ?_⟩
 obtain ⟨ad, e, hc⟩ := h.2.2 hp
 have hne : l ≠ [] := by intro e; subst e; simp at hp
 have hP := hm _ (hb ad e hne)
 refine ⟨ad, e, fun j p hj => ?_⟩
 obtain ⟨cs, h1, h2, h3⟩ := hc j p hj
 exact ⟨cs, h1, h2, fun i u hu => by rw [World.cell?_of_block (w := w) (a := ad.add (j * k64.sz + i)) (by rw [add_block]; exact hP)]; exact h3 i u hu⟩
theorem NIn.move {w w' : World} {P : Nat → Prop} {t : NT} {cs : List Value} (h : NIn w P t cs) (hm : ∀ b, P b → w'.heap[b]? = w.heap[b]?) : NIn w' P t cs := by
 induction h with
 | mk k m lo hi r kids ar ak cr ck cs hr hrb hcr hrl hin hck hkl hk ha ih =>
  refine .mk k m lo hi r kids ar ak cr ck cs (C_move hr hrb hm) hrb hcr hrl hin hck hkl ih fun j hj => ?_
  obtain ⟨ad, e, hP, hc⟩ := ha j hj
  exact ⟨ad, e, hP, fun i u hu => by rw [World.cell?_of_block (w := w) (a := ad.add (j * 6 + i)) (by rw [add_block]; exact hm _ hP)]; exact hc i u hu⟩
theorem NIn.mono {w : World} {P P' : Nat → Prop} {t : NT} {cs : List Value} (h : NIn w P t cs) (hp : ∀ b, P b → P' b) : NIn w P' t cs := by
 induction h with
 | mk k m lo hi r kids ar ak cr ck cs hr hrb hcr hrl hin hck hkl hk ha ih =>
  refine .mk k m lo hi r kids ar ak cr ck cs hr (fun ad e hn => hp _ (hrb ad e hn)) hcr hrl hin hck hkl ih fun j hj => ?_
  obtain ⟨ad, e, hP, hc⟩ := ha j hj
  exact ⟨ad, e, hp _ hP, hc⟩
theorem NIn.keep {w w' : World} {n : Nat} {t : NT} {cs : List Value} (h : NIn w (· < n) t cs) (hb : Below n w w') : NIn w' (· < n) t cs := h.move fun b hp => hb.block b hp
theorem NIn.len {w : World} {P : Nat → Prop} {t : NT} {cs : List Value} (h : NIn w P t cs) : cs.length = 6 := by cases h; rfl
/-- the cells of a kid -/
theorem NIn.kid {w : World} {P : Nat → Prop} {k m lo hi : Int} {r : List S64} {kids : List NT} {ak : Option Addr} {ck : Nat} {v0 v1 v2 v3 v4 : Value}
  (h : NIn w P (.mk k m lo hi r kids) [v0, v1, v2, v3, v4, .slice ak kids.length ck]) {j : Nat} {t : NT} (hj : kids[j]? = some t) :
  ∃ ad cs, ak = some ad ∧ P ad.block ∧ NIn w P t cs ∧ ∀ i u, cs[i]? = some u → w.cell? (ad.add (j * 6 + i)) = some u := by
 cases h with
 | mk _ _ _ _ _ _ ar ak cr ck cs hr hrb hcr hrl hin hck hkl hk ha =>
  obtain ⟨ad, e, hP, hc⟩ := ha j (List.getElem?_eq_some_iff.1 hj).1
  exact ⟨ad, cs j, e, hP, hk j t hj, hc⟩
/-- a node as a value, a node on a walk as a value -/
def stepV (cs : List Value) (s : Step) : Value := .agg (cs ++ ([.int .i64 s.deep, .int .i64 s.around, .bool s.first, .bool s.last, .bool s.branch] : List Value)).toArray
end Go.Proofs.Ytamhkdlcoghdbaa.PCls
/- Out of ZBulk (wip/tools/prune2.py): the declarations alone that the texts of the trees name. -/
namespace Go.Proofs.Ytamhkdlcoghdbaa.PCls
open Go.RowKit Go.ChangeShapes Go.WideShapes Go.ChangeAt
set_option linter.unusedVariables false
theorem bulk_one {H : Type} (d : DataW H) : 1 ≤ Rows.uptoBulk d := by
 cases d with
 | lit l => cases l <;> simp [Rows.uptoBulk]
 | nil => simp [Rows.uptoBulk]
 | ptr d => simp [Rows.uptoBulk]
 | slice elems spare => simp [Rows.uptoBulk]
 | agg parts => simp [Rows.uptoBulk]
 | iface t d => simp [Rows.uptoBulk]
 | map entries => simp [Rows.uptoBulk]
 | held h => simp [Rows.uptoBulk]
theorem bulk_part {H : Type} {d : DataW H} {l : List (DataW H)} (h : d ∈ l) : Rows.uptoBulk d ≤ Rows.uptoBulkAll l := by
 induction l with
 | nil => cases h
 | cons x r ih =>
  simp only [Rows.uptoBulkAll]
  cases List.mem_cons.1 h with
  | inl e => subst e; omega
  | inr e => have := ih e; omega
theorem bulk_length {H : Type} (l : List (DataW H)) : l.length ≤ Rows.uptoBulkAll l := by
 induction l with
 | nil => simp [Rows.uptoBulkAll]
 | cons x r ih => have := bulk_one x; simp only [Rows.uptoBulkAll, List.length_cons]; omega
end Go.Proofs.Ytamhkdlcoghdbaa.PCls
/- Out of TOpen (wip/tools/prune2.py): the declarations alone that the texts of the trees name. -/
namespace Go.Proofs.Ytamhkdlcoghdbaa.PCls
open Go.RowKit Go.ChangeShapes Go.WideShapes Go.ChangeAt Go.Proofs.YtamhkdlcoghdbaaW.PrintWords Go.Proofs.YtamhkdlcoghdbaaW.PrintLast Go.Proofs.YtamhkdlcoghdbaaW.PrintMore
set_option linter.unusedVariables false
set_option linter.unusedSimpArgs false
theorem cell_block {w : World} {p : Addr} {v : Value} (h : w.cell? p = some v) : p.block < w.heap.size := by
 rcases Nat.lt_or_ge p.block w.heap.size with hl | hl
 ·exact hl
 ·unfold World.cell? at h
  rw [Array.getElem?_eq_none hl] at h
  cases h
section
variable {H : Type} {enc : TypeId × Value → H} {W : World}
theorem ranges_of_trod {fuel : Nat} {cs : List Value} {x : DataW H × List MemPlace} (h : DataW.trod enc Try.prog W 0 (fun _ => true) true fuel 22 cs = some x) :
  ∃ (a : Option Addr) (l : List S64) (cap : Nat), cs = [.slice a l.length cap] ∧ Kd.C k64 W a l.length l ∧ l.length ≤ cap ∧ inR l = true ∧ l.length < Rows.uptoBulk x.1 ∧ (∀ ad, a = some ad → l ≠ [] → ad.block < W.heap.size) := by
 rcases Go.Deep.open_slice_pairs Try.underlying22 Try.underlying64 (by kernel_rfl) rfl rfl (by kernel_rfl) (by kernel_rfl) h with ⟨rfl, rfl⟩ | ⟨ad, ln, cp, m, n, V0, V1, D0, D1, P0, P1, rfl, _, hl, hm, hmm, rfl, hcell⟩
 ·exact ⟨none, [], 0, rfl, ⟨rfl, by simp, fun h => by simp at h⟩, by simp, rfl, by simp [Rows.uptoBulk], fun ad h => by cases h⟩
 ·simp only [if_true] at hmm
  subst hmm
  have each : ∀ i, i < ln → ∃ q : S64, W.cell? (ad.add (i * 2)) = some (.int .i64 q.f0) ∧ W.cell? (ad.add (i * 2 + 1)) = some (.int .i64 q.f1) ∧ (Lit.int .i64 q.f0).wf = true ∧ (Lit.int .i64 q.f1).wf = true := fun i hi => by
   obtain ⟨h0, h1, t0, t1⟩ := hcell i (by omega)
   obtain ⟨n0, e0, _, w0⟩ := DataW.trod_int Try.underlying3 t0
   obtain ⟨n1, e1, _, w1⟩ := DataW.trod_int Try.underlying3 t1
   simp at e0 e1
   exact ⟨⟨n0, n1⟩, by rw [h0, e0], by rw [h1, e1], w0, w1⟩
  obtain ⟨q, hq⟩ := Go.Deep.choose_lt each
  have hlen : ((List.range ln).map q).length = ln := by simp
  refine ⟨some ad, (List.range ln).map q, m, by rw [hlen], ⟨rfl, by rw [hlen]; unfold maxLen at hm; omega, fun _ => ⟨ad, rfl, fun j p hj => ?_⟩⟩, by rw [hlen]; exact hl, ?_, ?_, ?_⟩
  ·have hjl : j < ln := by
    have := (List.getElem?_eq_some_iff.1 hj).1
    simpa using this
   have hp : p = q j := by
    have := (List.getElem?_eq_some_iff.1 hj).2
    simpa using this.symm
   subst hp
   refine ⟨enc2 (q j), rfl, k64_mk _ _, fun i u hu => ?_⟩
   have hj2 := hq j hjl
   match i, hu with
   | 0, hu => simp [enc2] at hu; subst hu; exact hj2.1
   | 1, hu => simp [enc2] at hu; subst hu; exact hj2.2.1
   | i + 2, hu => simp [enc2] at hu
  ·unfold inR
   rw [List.all_eq_true]
   intro r hr
   obtain ⟨i, hi, rfl⟩ := List.mem_map.1 hr
   have hj2 := hq i (List.mem_range.1 hi)
   have a0 := wf64 hj2.2.2.1
   have a1 := wf64 hj2.2.2.2
   simp
   omega
  ·have h1 := bulk_length (H := H) ((List.range ln).map fun i => .agg [D0 i, D1 i])
   simp only [Rows.uptoBulk, hlen]
   simp only [List.length_map, List.length_range] at h1
   omega
  ·rintro ad' h hne
   cases h
   have hln : 0 < ln := by
    rcases Nat.eq_zero_or_pos ln with h0 | h0
    ·subst h0; simp at hne
    ·exact h0
   exact cell_block (hq 0 hln).1
set_option maxRecDepth 100000 in
theorem node_of_trod : ∀ (N fuel : Nat) (cs : List Value) (x : DataW H × List MemPlace), DataW.trod enc Try.prog W 0 (fun _ => true) true fuel 44 cs = some x → Rows.uptoBulk x.1 ≤ N → N ≤ 1048576 →
  ∃ t : NT, NIn W (· < W.heap.size) t cs ∧ t.nodes ≤ N := by
 intro N
 induction N using Nat.strongRecOn with
 | ind N ih =>
  intro fuel cs x h hb hN
  obtain ⟨xs, n, rfl, rfl, hl, hxl, hf⟩ := DataW.trod_struct Try.underlying44 h
  rw [show Try.prog.cellsOf 44 = 6 by kernel_rfl] at hl
  match xs, hxl, cs, hl with
  | [y0, y1, y2, y3, y4, y5], _, [v0, v1, v2, v3, v4, v5], _ =>
   have g0 := hf 0 { name := "Kind", type := 3, offset := 0, embedded := false, tag := "", pkgPath := "", byteOffset := 0 } rfl
   have g1 := hf 1 { name := "N", type := 3, offset := 1, embedded := false, tag := "", pkgPath := "", byteOffset := 8 } rfl
   have g2 := hf 2 { name := "Min", type := 3, offset := 2, embedded := false, tag := "", pkgPath := "", byteOffset := 16 } rfl
   have g3 := hf 3 { name := "Max", type := 3, offset := 3, embedded := false, tag := "", pkgPath := "", byteOffset := 24 } rfl
   have g4 := hf 4 { name := "Ranges", type := 22, offset := 4, embedded := false, tag := "", pkgPath := "", byteOffset := 32 } rfl
   have g5 := hf 5 { name := "Kids", type := 42, offset := 5, embedded := false, tag := "", pkgPath := "", byteOffset := 56 } rfl
   simp only [show Try.prog.cellsOf 3 = 1 by kernel_rfl, show Try.prog.cellsOf 22 = 1 by kernel_rfl, show Try.prog.cellsOf 42 = 1 by kernel_rfl, List.drop_succ_cons, List.drop_zero, List.take_succ_cons, List.take_zero, List.getElem?_cons_zero, List.getElem?_cons_succ] at g0 g1 g2 g3 g4 g5
   obtain ⟨q0, e0, rfl, _⟩ := DataW.trod_int Try.underlying3 g0
   obtain ⟨q1, e1, rfl, _⟩ := DataW.trod_int Try.underlying3 g1
   obtain ⟨q2, e2, rfl, _⟩ := DataW.trod_int Try.underlying3 g2
   obtain ⟨q3, e3, rfl, _⟩ := DataW.trod_int Try.underlying3 g3
   obtain ⟨ar, r, cr, e4, hC, hcr, hin, hrl, hrb⟩ := ranges_of_trod g4
   simp only [List.cons.injEq, and_true] at e0 e1 e2 e3 e4
   subst e0 e1 e2 e3 e4
   simp only [List.map_cons, List.map_nil, Rows.uptoBulk, Rows.uptoBulkAll] at hb
   rcases Go.Deep.open_slice Try.underlying42 g5 with ⟨e5, rfl⟩ | ⟨ad, ln, cp, m, n', D, Pl, e5, _, hlc, hcm, hmm, rfl, hx⟩
   ·simp only [List.cons.injEq, and_true] at e5
    subst e5
    refine ⟨.mk q0 q1 q2 q3 r [], .mk q0 q1 q2 q3 r [] ar none cr 0 (fun _ => []) hC hrb hcr (by omega) hin (by simp) (by simp) (fun j t h => by simp at h) (fun j h => by simp at h), ?_⟩
    simp only [NT.nodes, NT.nodesL]
    omega
   ·simp only [List.cons.injEq, and_true] at e5
    subst e5
    simp only [if_true] at hmm
    subst hmm
    simp only [Rows.uptoBulk] at hb
    have hall : ∀ i, i < ln → Rows.uptoBulk (D i) ≤ Rows.uptoBulkAll ((List.range ln).map D) := fun i hi => bulk_part (List.mem_map.2 ⟨i, List.mem_range.2 hi, rfl⟩)
    have each : ∀ i, i < ln → ∃ q : NT × List Value, NIn W (· < W.heap.size) q.1 q.2 ∧ q.1.nodes ≤ Rows.uptoBulk (D i) ∧ ∀ j u, q.2[j]? = some u → W.cell? (ad.add (i * 6 + j)) = some u := fun i hi => by
     obtain ⟨cs', h1, h2⟩ := hx i (by omega)
     rw [show Try.prog.cellsOf 44 = 6 by kernel_rfl] at h1
     obtain ⟨_, hlen, hcell⟩ := World.cells?_some h1
     have := hall i hi
     obtain ⟨t, ht, hn⟩ := ih (Rows.uptoBulk (D i)) (by omega) n' cs' _ h2 (Nat.le_refl _) (by omega)
     refine ⟨(t, cs'), ht, hn, fun j u hu => ?_⟩
     have hj : j < cs'.length := (List.getElem?_eq_some_iff.1 hu).1
     have := hcell j (by omega)
     rw [Go.Deep.add_add] at this
     rw [this]
     exact hu
    obtain ⟨q, hq⟩ := Go.Deep.choose_lt each
    have hlen : ((List.range ln).map fun i => (q i).1).length = ln := by simp
    have hbl := bulk_length (H := H) ((List.range ln).map D)
    simp only [List.length_map, List.length_range] at hbl
    have hnod : ∀ k, k ≤ ln → NT.nodesL ((List.range k).map fun i => (q i).1) ≤ Rows.uptoBulkAll ((List.range k).map D) := by
     have happ : ∀ (a b : List (DataW H)), Rows.uptoBulkAll (a ++ b) = Rows.uptoBulkAll a + Rows.uptoBulkAll b := by
      intro a b
      induction a with
      | nil => simp [Rows.uptoBulkAll]
      | cons y a ih => simp only [List.cons_append, Rows.uptoBulkAll, ih]; omega
     intro k
     induction k with
     | zero => intro _; simp [NT.nodesL]
     | succ k ihk =>
      intro hk
      have h1 := ihk (by omega)
      have h2 := (hq k (by omega)).2.1
      rw [List.range_succ, List.map_append, List.map_append, NT.nodesL_append, happ]
      simp only [List.map_cons, List.map_nil, NT.nodesL, Rows.uptoBulkAll]
      omega
    have hnl := hnod ln (Nat.le_refl _)
    refine ⟨.mk q0 q1 q2 q3 r ((List.range ln).map fun i => (q i).1), ?_, ?_⟩
    ·have := NIn.mk (w := W) (P := (· < W.heap.size)) q0 q1 q2 q3 r ((List.range ln).map fun i => (q i).1) ar (some ad) cr m (fun i => (q i).2) hC hrb hcr (by omega) hin (by rw [hlen]; exact hlc) (by rw [hlen]; omega)
      (fun j t hj => by
       obtain ⟨hj1, hj2⟩ := List.getElem?_eq_some_iff.1 hj
       simp at hj2
       rw [← hj2]
       exact (hq j (by simpa using hj1)).1)
      (fun j hj => by
       rw [hlen] at hj
       have h3 := (hq j hj).2.2
       have h4 := (hq j hj).1.len
       obtain ⟨u, hu⟩ : ∃ u, (q j).2[0]? = some u := ⟨_, List.getElem?_eq_getElem (by omega)⟩
       exact ⟨ad, rfl, by have := cell_block (h3 0 u hu); rwa [add_block] at this, h3⟩)
     rwa [hlen] at this
    ·simp only [NT.nodes]
     omega
end
end Go.Proofs.Ytamhkdlcoghdbaa.PCls
