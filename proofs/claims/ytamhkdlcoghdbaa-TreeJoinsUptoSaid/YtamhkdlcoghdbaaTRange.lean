/- A loop over an iterator of known elements that keeps a count in memory of its own and reads memory between two rounds: one law for the caller, under the wide fence. -/
import Derived.RangeFuncNested
import Derived.RangeFuncBound
import Derived.RangeFuncCalls
import Derived.RangeFuncLeaves
import Derived.Shelf.Abstract
import Derived.Shelf.RegionOpen
import Derived.WalkKit
import Derived.OwnWalkIn
import Derived.TacticsInMore
import Derived.LoopNIn
import Derived.LoopIn
namespace Go.Proofs.Ytamhkdlcoghdbaa.PCls
open Go.RowKit Go.Shelf
set_option linter.unusedVariables false

/-- whatever was there is kept, but for the blocks from lo up to hi, and, beyond hi, rows of elements of type 64 (a round may write what it was handed) -/
structure KeptBut (lo hi : Nat) (W W' : World) : Prop where
  os : W'.os = W.os
  tape : W'.tape = W.tape
  output : W'.output = W.output
  size : W.heap.size ≤ W'.heap.size
  block : ∀ k, k < W.heap.size → (k < lo ∨ (hi ≤ k ∧ ∀ cells fr, W.heap[k]? ≠ some (.cells cells 64 fr))) → W'.heap[k]? = W.heap[k]?
theorem KeptBut.refl (lo hi : Nat) (W : World) : KeptBut lo hi W W := ⟨rfl, rfl, rfl, Nat.le_refl _, fun _ _ _ => rfl⟩
theorem KeptBut.trans {lo hi : Nat} {A B C : World} (h : KeptBut lo hi A B) (k : KeptBut lo hi B C) : KeptBut lo hi A C :=
  ⟨k.os.trans h.os, k.tape.trans h.tape, k.output.trans h.output, Nat.le_trans h.size k.size, fun i hi' hb => (k.block i (Nat.lt_of_lt_of_le hi' h.size) (hb.imp_right fun x => ⟨x.1, fun cells fr => by rw [h.block i hi' hb]; exact x.2 cells fr⟩)).trans (h.block i hi' hb)⟩
theorem KeptBut.of_below {lo hi : Nat} {W W' : World} (h : Below W.heap.size W W') : KeptBut lo hi W W' := ⟨h.os, h.tape, h.output, h.size, fun k hk _ => h.block k hk⟩
theorem KeptBut.setCell {lo hi : Nat} {W W' : World} (h : KeptBut lo hi W W') {p : Addr} (h1 : lo ≤ p.block) (h2 : p.block < hi) (u : Value) : KeptBut lo hi W (W'.setCell p u) :=
  h.trans ⟨rfl, rfl, rfl, by simp [World.setCell], fun k _ hb => Below.heap_setCell _ _ _ _ (by omega)⟩
theorem KeptBut.drew {lo hi : Nat} {W W' : World} (h : KeptBut lo hi W W') : KeptBut lo hi W W'.drew := ⟨h.os, h.tape, h.output, h.size, h.block⟩
theorem KeptBut.below {lo hi : Nat} {W W' : World} (h : KeptBut lo hi W W') (hl : lo ≤ W.heap.size) : Below lo W W' := ⟨h.os, h.tape, h.output, h.size, fun k hk => h.block k (by omega) (.inl hk)⟩
theorem KeptBut.wide {lo hi lo' hi' : Nat} {W W' : World} (h : KeptBut lo hi W W') (h1 : lo' ≤ lo) (h2 : hi ≤ hi') : KeptBut lo' hi' W W' :=
  ⟨h.os, h.tape, h.output, h.size, fun k hk hb => h.block k hk (by rcases hb with hb | hb; exact .inl (by omega); exact .inr ⟨by omega, hb.2⟩)⟩
theorem keptBut_putObj {lo hi : Nat} (W : World) {l : Nat} (o : Obj) (h1 : lo ≤ l) (h2 : l < hi) : KeptBut lo hi W (W.putObj l o) :=
  ⟨rfl, rfl, rfl, by simp, fun k _ hb => World.putObj_heap_other (by omega)⟩
theorem below_putObj {n l : Nat} (W : World) (o : Obj) (h : n ≤ l) : Below n W (W.putObj l o) :=
  ⟨rfl, rfl, rfl, by simp, fun k hk => World.putObj_heap_other (by omega)⟩

/-- an iterator, called in W1: the elements xs come, one by one, with values that E tells; or a first part of them, a round having said that no more is wanted -/
def SeqIn {α : Type} (P : Program) (gf : Nat) (lb : Array Value) (go : List α → α → Bool) (xs : List α) (E : α → World → Array Value → Prop) (lo : Nat) (W1 : World) : Prop :=
  ∀ (l : Nat) (J Jx : List α → World → Prop), (∀ s A B, J s A → Below W1.heap.size A B → J s B) → (∀ s A B, Jx s A → Below W1.heap.size A B → Jx s B) →
    (∀ (m : Nat) (pre : List α) (x : α) (vs : Array Value) (A : World), pre ++ [x] <+: xs → J pre A → E x A vs → YieldAt Fence.wide m P l vs A fun e B =>
      e = .returned (.bool (go pre x)) ∧ (go pre x = true → J (pre ++ [x]) B ∧ KeptBut lo W1.heap.size A B) ∧ (go pre x = false → Jx (pre ++ [x]) B ∧ A.heap.size ≤ B.heap.size)) →
    J [] W1 → Calls P gf (#[.func (.yield l) #[] #[]] ++ lb) W1 fun e W' => (∃ v, e = .returned v) ∧ (J xs W' ∨ ∃ pre, pre <+: xs ∧ Jx pre W')

/-- how a round may be left -/
def roundEnd {α : Type} (g : Bool) (lo hi : Nat) (I : List α → World → Prop) (Ix : Code → List α → World → Prop) (xs : List α) (W : World) : Exit → Act → World → Prop
  | .normal, _, W' => g = true ∧ KeptBut lo hi W W' ∧ I xs W'
  | .ret, _, W' => g = false ∧ KeptBut lo hi W W' ∧ Ix .ret xs W'
  | .exit id, _, W' => g = false ∧ KeptBut lo hi W W' ∧ Ix (.exit id) xs W'
  | .goto t, _, W' => g = false ∧ KeptBut lo hi W W' ∧ Ix (.goto t) xs W'
  | .panic _, _, _ => False
  | .outgrown, _, _ => False

theorem YieldAt.anyDepth_ {m : Nat} (m' : Nat) {P : Program} {l : Nat} {args : Array Value} {W : World} {R : Ending → World → Prop} (h : YieldAt Fence.wide m P l args W R) : YieldAt Fence.wide m' P l args W R := by
  obtain ⟨fn, tmps, assign, body, hy, hR⟩ := h
  exact ⟨fn, tmps, assign, body, hy, hR.1, fun c cs _ => hR.2 c cs (room_wide _)⟩

theorem range_law {α : Type} {P : Program} {n : Nat} {g : Operand} {ps : Array Tmp} {assign body : Code} {Q : Exit → Act → World → Prop} {a : Act} {w : World}
    {gf : Nat} {lb : Array Value} (hg : a.eval g = .func (.func gf) #[] lb) (eg : ∀ args w, (callFunc gf args).run P w = .ok (.enter gf args) w)
    (go : List α → α → Bool) (lo : Nat) (hlo : lo ≤ w.heap.size) (xs : List α) (E : α → World → Array Value → Prop) (hEs : ∀ x W vs, E x W vs → vs.size = ps.size)
    (Q1 : α → Array Value → Act → World → Prop) (hQ1 : ∀ x vs a' W W', Q1 x vs a' W → (∀ k, k ≠ w.heap.size + 1 → W'.heap[k]? = W.heap[k]?) → Q1 x vs a' W')
    (I : List α → World → Prop) (Ix : Code → List α → World → Prop) (hI : ∀ s A B, I s A → Below w.heap.size A B → I s B) (hIx : ∀ c s A B, Ix c s A → Below w.heap.size A B → Ix c s B) (h0 : I [] w)
    (hseq : ∀ W1, Below w.heap.size w W1 → W1.heap.size = w.heap.size + 2 → SeqIn P gf lb go xs E lo W1)
    (hassign : ∀ (l : Nat) (pre : List α) (x : α) (vs : Array Value) (W : World) (K : Act → World → Prop), pre ++ [x] <+: xs → I pre W → E x W vs → w.heap.size + 2 ≤ W.heap.size →
      (∀ a' W', KeptBut lo w.heap.size W W' → I pre W' → Q1 x vs a' W' → K a' W') →
      assign.wpIn (Fence.wide.inRound l) (n - 1 - 1) P (Exit.then K (fun _ _ _ => False)) { tmps := (ps.zip vs).foldl (fun t (p, v) => t.setIfInBounds p v) a.tmps, defers := [] } W)
    (hbody : ∀ (l : Nat) (pre : List α) (x : α) (vs : Array Value) (a' : Act) (W : World), pre ++ [x] <+: xs → I pre W → Q1 x vs a' W → w.heap.size + 2 ≤ W.heap.size → body.wpIn (Fence.wide.inRound l) (n - 1 - 1) P (roundEnd (go pre x) lo w.heap.size I Ix (pre ++ [x]) W) a' W)
    (hdone : ∀ (W : World), I xs W → w.heap.size + 2 ≤ W.heap.size → W.heap[w.heap.size]? = some (.deferred (some [])) → Q .normal { a with defers := { target := .collected w.heap.size, args := #[] } :: a.defers } W)
    (hstop : ∀ (c : Code) (pre : List α) (W : World), pre <+: xs → Ix c pre W → w.heap.size + 2 ≤ W.heap.size → W.heap[w.heap.size]? = some (.deferred (some [])) → c.wpIn Fence.wide n P Q { a with defers := { target := .collected w.heap.size, args := #[] } :: a.defers } W) :
    (Code.rangeFunc g ps assign body).wpIn Fence.wide n P Q a w := by
  refine wpIn_rangeFunc ?_
  intro fn hfn
  obtain ⟨mkL, hmkL⟩ : ∃ mkL : LoopState → Option Code → Loop, mkL = fun st pe => { state := st, pending := pe, fn, tmps := a.tmps, params := ps, assign, body, defers := w.heap.size } := ⟨_, rfl⟩
  obtain ⟨W1, hW1⟩ : ∃ W1, (w.alloc (.deferred (some []))).alloc (.loop (mkL .ready none)) = W1 := ⟨_, rfl⟩
  have hsz1 : W1.heap.size = w.heap.size + 2 := by rw [← hW1]; simp
  have hrec1 : W1.heap[w.heap.size + 1]? = some (.loop (mkL .ready none)) := by
    rw [← hW1]
    have := World.alloc_heap_new (w.alloc (.deferred (some []))) (.loop (mkL .ready none))
    rwa [World.size_alloc] at this
  have hdef1 : W1.heap[w.heap.size]? = some (.deferred (some [])) := by
    rw [← hW1]
    exact (Below.heap_alloc _ _ _ (by simp)).trans (World.alloc_heap_new w _)
  have hbel1 : Below w.heap.size w W1 := by
    rw [← hW1]
    exact ((Below.refl _ w).alloc (Nat.le_refl _) _).alloc (by simp) _
  refine ⟨w.heap.size + 1, [{ target := .collected w.heap.size, args := #[] }], W1, { target := .fn (.func gf) lb, args := #[.func (.yield (w.heap.size + 1)) #[] #[]] }, W1, gf,
    #[.func (.yield (w.heap.size + 1)) #[] #[]] ++ lb, W1, ?_, ?_, fun _ _ => trivial, ?_, (fun h => by cases h), callsIn_wide.2 ?_⟩
  · rw [← hW1, hmkL]; exact run_enterLoop_outer _ _ _ _ _
  · simp only [resolve, hg]
    simp [go_sem]
  · simp [invoke, go_sem, eg]
  refine (hseq W1 hbel1 hsz1 (w.heap.size + 1)
    (fun pre W => I pre W ∧ W.heap[w.heap.size + 1]? = some (.loop (mkL .ready none)) ∧ W.heap[w.heap.size]? = some (.deferred (some [])) ∧ W1.heap.size ≤ W.heap.size)
    (fun pre W => ∃ c, Ix c pre W ∧ W.heap[w.heap.size + 1]? = some (.loop (mkL .done (some c))) ∧ W.heap[w.heap.size]? = some (.deferred (some [])) ∧ W1.heap.size ≤ W.heap.size)
    (fun s A B h hb => ⟨hI s A B h.1 (hb.mono (by omega)), (hb.block _ (by omega)).trans h.2.1, (hb.block _ (by omega)).trans h.2.2.1, Nat.le_trans h.2.2.2 hb.size⟩)
    (fun s A B h hb => by
      obtain ⟨c, h1, h2, h3, h4⟩ := h
      exact ⟨c, hIx c s A B h1 (hb.mono (by omega)), (hb.block _ (by omega)).trans h2, (hb.block _ (by omega)).trans h3, Nat.le_trans h4 hb.size⟩)
    ?_ ⟨hI _ _ _ h0 hbel1, hrec1, hdef1, Nat.le_refl _⟩).mono ?_
  · rintro m pre x vs W hpre ⟨hi, hl, hk, hs⟩ hEx
    refine YieldAt.anyDepth_ (m := n - 1 - 1) m ?_
    have hy := run_yield (P := P) (args := vs) hl (by rw [hmkL]; exact hEs x W vs hEx)
    rw [hmkL] at hy
    refine ⟨fn, _, assign, body, hy, roundIn_of_wpIn hfn (hassign _ pre x vs W _ hpre hi hEx (by omega) (fun a' W0 hk0 hi0 hq0 => ?_))⟩
    have hs0 := hk0.size
    have hl0 : W0.heap[w.heap.size + 1]? = some (.loop (mkL .ready none)) := (hk0.block _ (by omega) (.inr ⟨by omega, fun cells fr => by rw [hl]; simp⟩)).trans hl
    have hd0 : W0.heap[w.heap.size]? = some (.deferred (some [])) := (hk0.block _ (by omega) (.inr ⟨by omega, fun cells fr => by rw [hk]; simp⟩)).trans hk
    have hlt : w.heap.size + 1 < W0.heap.size := by omega
    refine ⟨_, run_beginRound hl0 (by rw [hmkL]), ?_⟩
    obtain ⟨bz, hbz⟩ : ∃ bz : Loop, bz = { mkL .ready none with state := .busy } := ⟨_, rfl⟩
    rw [← hbz]
    have hl2 : (W0.putObj (w.heap.size + 1) (.loop bz)).heap[w.heap.size + 1]? = some (.loop bz) := World.putObj_heap_same hlt
    have hk2 : (W0.putObj (w.heap.size + 1) (.loop bz)).heap[w.heap.size]? = some (.deferred (some [])) := (World.putObj_heap_other (by omega)).trans hd0
    refine wpIn_mono (hbody _ pre x vs a' _ hpre (hI _ _ _ hi0 (below_putObj W0 _ (by omega))) (hQ1 x vs a' _ _ hq0 (fun k hk => World.putObj_heap_other (by omega))) (by simp; omega)) ?_
    have fin : ∀ (jump : Option Code) (W3 : World), KeptBut lo w.heap.size (W0.putObj (w.heap.size + 1) (.loop bz)) W3 →
        (Instr.endRound (w.heap.size + 1) jump).run P W3 = .ok (.bool jump.isNone) (W3.putObj (w.heap.size + 1) (.loop (mkL (if jump.isNone then .ready else .done) jump))) ∧
        (W3.putObj (w.heap.size + 1) (.loop (mkL (if jump.isNone then .ready else .done) jump))).heap[w.heap.size + 1]? = some (.loop (mkL (if jump.isNone then .ready else .done) jump)) ∧
        (W3.putObj (w.heap.size + 1) (.loop (mkL (if jump.isNone then .ready else .done) jump))).heap[w.heap.size]? = some (.deferred (some [])) ∧
        Below w.heap.size W3 (W3.putObj (w.heap.size + 1) (.loop (mkL (if jump.isNone then .ready else .done) jump))) ∧ W1.heap.size ≤ (W3.putObj (w.heap.size + 1) (.loop (mkL (if jump.isNone then .ready else .done) jump))).heap.size ∧
        KeptBut lo W1.heap.size W (W3.putObj (w.heap.size + 1) (.loop (mkL (if jump.isNone then .ready else .done) jump))) := fun jump W3 hk3 => by
      have hsz : (W0.putObj (w.heap.size + 1) (.loop bz)).heap.size = W0.heap.size := by simp
      have hl3 : W3.heap[w.heap.size + 1]? = some (.loop bz) := (hk3.block _ (by omega) (.inr ⟨by omega, fun cells fr => by rw [hl2]; simp⟩)).trans hl2
      have hd3 : W3.heap[w.heap.size]? = some (.deferred (some [])) := (hk3.block _ (by omega) (.inr ⟨by omega, fun cells fr => by rw [hk2]; simp⟩)).trans hk2
      have hsz3 := hk3.size
      have hr := run_endRound (P := P) jump hl3
      have e1 : ({ bz with state := if jump.isNone then .ready else .done, pending := jump } : Loop) = mkL (if jump.isNone then .ready else .done) jump := by rw [hbz, hmkL]
      rw [e1] at hr
      exact ⟨hr, World.putObj_heap_same (by omega), (World.putObj_heap_other (by omega)).trans hd3, below_putObj _ _ (by omega), by simp; omega,
        (hk0.wide (Nat.le_refl _) (by omega)).trans ((keptBut_putObj W0 _ (by omega) (by omega)).trans ((hk3.wide (Nat.le_refl _) (by omega)).trans (keptBut_putObj W3 _ (by omega) (by omega))))⟩
    rintro e a3 W3 hp
    cases e with
    | normal =>
      obtain ⟨hg3, hk3, hi3⟩ := hp
      obtain ⟨hr, hl4, hd4, hb4, hs4, hk4⟩ := fin none W3 hk3
      exact ⟨_, _, hr, by rw [hg3]; rfl, fun _ => ⟨⟨hI _ _ _ hi3 hb4, hl4, hd4, hs4⟩, hk4⟩, fun h => by rw [hg3] at h; simp at h⟩
    | ret =>
      obtain ⟨hg3, hk3, hi3⟩ := hp
      obtain ⟨hr, hl4, hd4, hb4, hs4, hk4⟩ := fin (some .ret) W3 hk3
      exact ⟨_, _, hr, by rw [hg3]; rfl, fun h => by rw [hg3] at h; simp at h, fun _ => ⟨⟨.ret, hIx _ _ _ _ hi3 hb4, hl4, hd4, hs4⟩, hk4.size⟩⟩
    | exit id =>
      obtain ⟨hg3, hk3, hi3⟩ := hp
      obtain ⟨hr, hl4, hd4, hb4, hs4, hk4⟩ := fin (some (.exit id)) W3 hk3
      exact ⟨_, _, hr, by rw [hg3]; rfl, fun h => by rw [hg3] at h; simp at h, fun _ => ⟨⟨.exit id, hIx _ _ _ _ hi3 hb4, hl4, hd4, hs4⟩, hk4.size⟩⟩
    | goto t =>
      obtain ⟨hg3, hk3, hi3⟩ := hp
      obtain ⟨hr, hl4, hd4, hb4, hs4, hk4⟩ := fin (some (.goto t)) W3 hk3
      exact ⟨_, _, hr, by rw [hg3]; rfl, fun h => by rw [hg3] at h; simp at h, fun _ => ⟨⟨.goto t, hIx _ _ _ _ hi3 hb4, hl4, hd4, hs4⟩, hk4.size⟩⟩
    | panic ch => exact hp.elim
    | outgrown => exact hp.elim
  · rintro e W2 ⟨⟨v, rfl⟩, (⟨hi, hl, hk, hs⟩ | ⟨pre, hpre, c, hi, hl, hk, hs⟩)⟩
    · exact ⟨none, _, by have := run_endLoop (P := P) hl (by rw [hmkL]; simp); rw [hmkL] at this; exact this,
        hdone _ (hI _ _ _ hi (below_putObj _ _ (by omega))) (by simp; omega) ((World.putObj_heap_other (by omega)).trans hk)⟩
    · exact ⟨some c, _, by have := run_endLoop (P := P) hl (by rw [hmkL]; simp); rw [hmkL] at this; exact this,
        hstop c pre _ hpre (hIx _ _ _ _ hi (below_putObj _ _ (by omega))) (by simp; omega) ((World.putObj_heap_other (by omega)).trans hk)⟩
end Go.Proofs.Ytamhkdlcoghdbaa.PCls
