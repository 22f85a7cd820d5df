/- What the bound of an Upto row gives: how long a list of ranges can be. -/
import Derived.Test.YtamhkdlcoghdbaaGOne
import Derived.Deep.CondSized
namespace Go.Proofs.Ytamhkdlcoghdbaa.PCls
open Go.RowKit Go.ChangeShapes Go.WideShapes Go.ChangeAt
set_option linter.unusedVariables false

theorem bulk_one {H : Type} (d : DataW H) : 1 ≤ Rows.uptoBulk d := by
  cases d with
  | lit l => cases l <;> simp [Rows.uptoBulk]
  | nil => simp [Rows.uptoBulk]
  | ptr d => simp [Rows.uptoBulk]
  | slice elems spare => simp [Rows.uptoBulk]
  | agg parts => simp [Rows.uptoBulk]
  | iface t d => simp [Rows.uptoBulk]
  | map entries => simp [Rows.uptoBulk]
  | held h => simp [Rows.uptoBulk]
theorem bulk_part {H : Type} {d : DataW H} {l : List (DataW H)} (h : d ∈ l) : Rows.uptoBulk d ≤ Rows.uptoBulkAll l := by
  induction l with
  | nil => cases h
  | cons x r ih =>
    simp only [Rows.uptoBulkAll]
    cases List.mem_cons.1 h with
    | inl e => subst e; omega
    | inr e => have := ih e; omega
theorem bulk_length {H : Type} (l : List (DataW H)) : l.length ≤ Rows.uptoBulkAll l := by
  induction l with
  | nil => simp [Rows.uptoBulkAll]
  | cons x r ih => have := bulk_one x; simp only [Rows.uptoBulkAll, List.length_cons]; omega
theorem ranges_small {H : Type} {enc : TypeId × Value → H} {W : World} {a : Option Addr} {n cap : Nat} {d : DataW H} {ps : List MemPlace} {D : List (DataW H)} (hk : Rows.uptoSmall H D = true) (hm : d ∈ D)
    (h : DataW.Trod enc Try.prog W 0 (fun _ => true) true 22 (.slice a n cap) d ps) : n ≤ 1048576 := by
  have hb : Rows.uptoBulkAll D ≤ 1048576 := of_decide_eq_true hk
  have hp := bulk_part hm
  obtain ⟨fuel, hf⟩ := h
  rcases Go.Deep.open_slice_pairs Try.underlying22 Try.underlying64 (by kernel_rfl) rfl rfl (by kernel_rfl) (by kernel_rfl) hf with ⟨hcs, hx⟩ | ⟨ad, ln, cp, m, f, V0, V1, D0, D1, P0, P1, hcs, _, hl, hm2, hmm, hx, hcell⟩
  · simp [Value.cells] at hcs
    omega
  · simp [Value.cells] at hcs
    obtain ⟨rfl, rfl, rfl⟩ := hcs
    rw [(Prod.mk.inj hx).1] at hp
    have h1 := bulk_length (H := H) ((List.range n).map fun i => .agg [D0 i, D1 i])
    simp only [Rows.uptoBulk] at hp
    simp only [List.length_map, List.length_range] at h1
    omega
end Go.Proofs.Ytamhkdlcoghdbaa.PCls
