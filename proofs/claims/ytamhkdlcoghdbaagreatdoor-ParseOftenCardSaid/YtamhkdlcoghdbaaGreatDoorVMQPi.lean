/- Put together (wip/tools/pack.py): QPi, QPj, QPk, QPl, QPm. -/
import Derived.Test.YtamhkdlcoghdbaaGreatDoorVMQPf
/- Out of Pi (wip/tools/prune2.py): the declarations alone that the texts of the trees name. -/
namespace Go.Proofs.YtamhkdlcoghdbaaGreatDoor.PCls
open Go.RowKit Go.Shelf Go.Proofs.YtamhkdlcoghdbaaGreatDoorW.PrintWords Go.Proofs.YtamhkdlcoghdbaaGreatDoorW.PrintLast Go.Proofs.YtamhkdlcoghdbaaGreatDoorW.PrintMore
set_option linter.unusedVariables false
set_option linter.unusedSimpArgs false
theorem lookup_run {a : Act} {w : World} {m x : Operand} {t ty : TypeId} {v k z : Value} {N : Option Tmp} {ps : String} {af : Array Edge} {gd : Option (Nat × Bool)} (hm : a.eval m = v) (hx : a.eval x = k) (hr : (Instr.lookup t v k false).run Tryz.prog w = .ok z w) :
    (execOp a.eval ⟨N, .lookup t m x false, ty, ps, af, gd⟩).run Tryz.prog w = .ok (.value z) w := by
  unfold execOp
  simp [hm, hx, hr, Result.andThen]
theorem update_run {a : Act} {w w' : World} {m x y : Operand} {t ty : TypeId} {v k z : Value} {ps : String} {af : Array Edge} {gd : Option (Nat × Bool)} (hm : a.eval m = v) (hx : a.eval x = k) (hy : a.eval y = z) (hr : (Instr.mapUpdate t v k z).run Tryz.prog w = .ok () w') :
    (execOp a.eval ⟨none, .mapUpdate t m x y, ty, ps, af, gd⟩).run Tryz.prog w = .ok .skip w' := by
  unfold execOp
  simp [hm, hx, hy, hr, Result.andThen]
/-- what a token does -/
def TokPost (W w' : World) (e : Ending) (base : Nat) (τ : Nat → Nat) (B mb : Nat) : Except Int MS → Prop
  | .error c => e = .returned (.int .i64 c) ∧ Below W.heap.size W w'
  | .ok m' => e = .returned (.int .i64 0) ∧ ∃ τ' al' O', MkAt w' base τ' B m' al' O' mb ∧ MkStp W w' base τ τ'
/-- the parser, as it stands ahead of a token -/
structure TokPre (W : World) (base : Nat) (τ : Nat → Nat) (B : Nat) (m : MS) (a : Nat) (al : List Nat) (O : Value) (mb : Nat) : Prop where
  at_ : MkAt W base τ B m (a :: al) O mb
  hbase : base ≤ W.heap.size
  cur : m.top.cur.length < 1000000
  done : m.top.done.length < 1000000
  below : m.below.length < 1000
  ended : m.ended.length < 100000
  many : 0 ≤ m.many ∧ m.many ≤ 30
theorem leafN_in (w : World) (P : Nat → Prop) (k n : Int) : PIn w P (leafN k n []) (.iface 159 (.agg #[.int .i64 k, .int .i64 n, .int .i64 0, .int .i64 0, .slice none 0 0, .slice none 0 0])) := .leaf _ _ (NIn.leaf w P k n 0 0)
/-- a part laid down, at the end of a token's way -/
theorem put_post (W : World) (base : Nat) (τ : Nat → Nat) (B : Nat) (m : MS) (a : Nat) (al : List Nat) (O : Value) (mb : Nat) (o : Obj) (p : PT) (w' : World) (hm : ∃ τ', MkAt w' base τ' B (m.put p) (a :: al) O mb ∧ MkStp (W.alloc o) w' base τ τ') : TokPost W w' (.returned (.int .i64 0)) base τ B mb (.ok (m.put p)) := by
  obtain ⟨τ', h1, h2⟩ := hm
  exact ⟨rfl, τ', _, _, h1, (MkStp.of_below ((Below.refl W.heap.size W).alloc (Nat.le_refl _) o)).trans h2⟩
section
variable (W : World) (base : Nat) (τ : Nat → Nat) (B : Nat) (m : MS) (a : Nat) (al : List Nat) (O : Value) (mb : Nat) (h : TokPre W base τ B m a al O mb)
include h
theorem TokPre.alloc (o : Obj) : TokPre (W.alloc o) base τ B m a al O mb := ⟨h.at_.keep ((Below.refl W.heap.size W).alloc (Nat.le_refl _) o), by simp; have := h.hbase; omega, h.cur, h.done, h.below, h.ended, h.many⟩
set_option maxHeartbeats 4000000 in
set_option maxRecDepth 100000 in
theorem tok_set (sat fin n lo hi : Int) (A : Option Addr) (L c : Nat) (r : List S64) (hp : PIn W (Fz W base τ) (leafN 2 0 r) (.iface 159 (.agg #[.int .i64 2, .int .i64 0, .int .i64 0, .int .i64 0, .slice A L c, .slice none 0 0]))) :
    Calls Tryz.prog 50 #[.pointer (some ⟨B, 0, none⟩), .agg #[.int .i64 1, .int .i64 sat, .int .i64 fin, .int .i64 n, .int .i64 lo, .int .i64 hi, .slice A L c]] W fun e w' => TokPost W w' e base τ B mb (.ok (m.put (leafN 2 0 r))) := by
  have hb := (Below.refl W.heap.size W).alloc (Nat.le_refl _) (.cells #[.int .i64 1, .int .i64 sat, .int .i64 fin, .int .i64 n, .int .i64 lo, .int .i64 hi, .slice A L c] 37)
  have h0 := TokPre.alloc W base τ B m a al O mb h (.cells #[.int .i64 1, .int .i64 sat, .int .i64 fin, .int .i64 n, .int .i64 lo, .int .i64 hi, .slice A L c] 37)
  have hp0 : PIn (W.alloc (.cells #[.int .i64 1, .int .i64 sat, .int .i64 fin, .int .i64 n, .int .i64 lo, .int .i64 hi, .slice A L c] 37)) (Fz (W.alloc (.cells #[.int .i64 1, .int .i64 sat, .int .i64 fin, .int .i64 n, .int .i64 lo, .int .i64 hi, .slice A L c] 37)) base τ) (leafN 2 0 r) (.iface 159 (.agg #[.int .i64 2, .int .i64 0, .int .i64 0, .int .i64 0, .slice A L c, .slice none 0 0])) :=
    (hp.move (fun b hb' => hb.block b hb'.2.1)).mono (fun b hb' => ⟨hb'.1, Nat.lt_of_lt_of_le hb'.2.1 hb.size, hb'.2.2⟩)
  have HP := Lib.hid (pput_calls _ base τ B m a al O mb h0.at_ h0.hbase h0.cur _ _ _ hp0)
  have HH := Lib.hid h
  clear hb h0 hp0 hp h
  go_enter Tryz.func50, Tryz.ntmps50
  go_wp2_with fail
  refine HP.out.mono ?_
  rintro e w' ⟨rfl, hm⟩
  have HM := Lib.hid hm
  clear hm HP
  go_wp2_with fail
  go_ret
  exact put_post W base τ B m a al O mb _ _ _ HM.out
set_option maxHeartbeats 4000000 in
set_option maxRecDepth 100000 in
theorem tok_begin (sat fin n lo hi : Int) (A : Option Addr) (L c : Nat) :
    Calls Tryz.prog 50 #[.pointer (some ⟨B, 0, none⟩), .agg #[.int .i64 7, .int .i64 sat, .int .i64 fin, .int .i64 n, .int .i64 lo, .int .i64 hi, .slice A L c]] W fun e w' => TokPost W w' e base τ B mb (.ok (m.put (leafN 3 0 []))) := by
  have h0 := TokPre.alloc W base τ B m a al O mb h (.cells #[.int .i64 7, .int .i64 sat, .int .i64 fin, .int .i64 n, .int .i64 lo, .int .i64 hi, .slice A L c] 37)
  have HP := Lib.hid (pput_calls _ base τ B m a al O mb h0.at_ h0.hbase h0.cur _ _ _ (leafN_in _ _ 3 0))
  have HH := Lib.hid h
  clear h0 h
  go_enter Tryz.func50, Tryz.ntmps50
  go_wp2_with fail
  refine HP.out.mono ?_
  rintro e w' ⟨rfl, hm⟩
  have HM := Lib.hid hm
  clear hm HP
  go_wp2_with fail
  go_ret
  exact put_post W base τ B m a al O mb _ _ _ HM.out
set_option maxHeartbeats 4000000 in
set_option maxRecDepth 100000 in
theorem tok_end (sat fin n lo hi : Int) (A : Option Addr) (L c : Nat) :
    Calls Tryz.prog 50 #[.pointer (some ⟨B, 0, none⟩), .agg #[.int .i64 8, .int .i64 sat, .int .i64 fin, .int .i64 n, .int .i64 lo, .int .i64 hi, .slice A L c]] W fun e w' => TokPost W w' e base τ B mb (.ok (m.put (leafN 4 0 []))) := by
  have h0 := TokPre.alloc W base τ B m a al O mb h (.cells #[.int .i64 8, .int .i64 sat, .int .i64 fin, .int .i64 n, .int .i64 lo, .int .i64 hi, .slice A L c] 37)
  have HP := Lib.hid (pput_calls _ base τ B m a al O mb h0.at_ h0.hbase h0.cur _ _ _ (leafN_in _ _ 4 0))
  have HH := Lib.hid h
  clear h0 h
  go_enter Tryz.func50, Tryz.ntmps50
  go_wp2_with fail
  refine HP.out.mono ?_
  rintro e w' ⟨rfl, hm⟩
  have HM := Lib.hid hm
  clear hm HP
  go_wp2_with fail
  go_ret
  exact put_post W base τ B m a al O mb _ _ _ HM.out
set_option maxHeartbeats 4000000 in
set_option maxRecDepth 100000 in
theorem tok_back (sat fin n lo hi : Int) (A : Option Addr) (L c : Nat) (hn : -9223372036854775808 ≤ n ∧ n ≤ 9223372036854775807) (R : Except Int MS) (hR : R = if m.ended.contains n = true then .ok (m.put (leafN 8 n [])) else .error 41) :
    Calls Tryz.prog 50 #[.pointer (some ⟨B, 0, none⟩), .agg #[.int .i64 6, .int .i64 sat, .int .i64 fin, .int .i64 n, .int .i64 lo, .int .i64 hi, .slice A L c]] W fun e w' => TokPost W w' e base τ B mb R := by
  have HR := Lib.hid hR
  clear hR
  obtain ⟨W0, hW0⟩ : ∃ X, X = W.alloc (.cells #[.int .i64 6, .int .i64 sat, .int .i64 fin, .int .i64 n, .int .i64 lo, .int .i64 hi, .slice A L c] 37) := ⟨_, rfl⟩
  have h0 := TokPre.alloc W base τ B m a al O mb h (.cells #[.int .i64 6, .int .i64 sat, .int .i64 fin, .int .i64 n, .int .i64 lo, .int .i64 hi, .slice A L c] 37)
  have hb := (Below.refl W.heap.size W).alloc (Nat.le_refl _) (.cells #[.int .i64 6, .int .i64 sat, .int .i64 fin, .int .i64 n, .int .i64 lo, .int .i64 hi, .slice A L c] 37)
  have htb := heap_alloc_new W (.cells #[.int .i64 6, .int .i64 sat, .int .i64 fin, .int .i64 n, .int .i64 lo, .int .i64 hi, .slice A L c] 37)
  rw [← hW0] at h0 hb htb
  obtain ⟨tb, htb'⟩ : ∃ tb, tb = W.heap.size := ⟨_, rfl⟩
  rw [← htb'] at htb
  have ltb := blk_lt htb
  have k0 : W0.cell? ⟨tb, 0, none⟩ = some (.int .i64 6) := lk_cell (i := 0) htb rfl
  have k3 : W0.cell? ⟨tb, 3, none⟩ = some (.int .i64 n) := lk_cell (i := 3) htb rfl
  have lB := blk_lt h0.at_.hB
  have kB : W0.cell? ⟨B, 2, none⟩ = some (.map (some mb)) := lk_cell (i := 2) h0.at_.hB rfl
  have HLK := Lib.hid (fun (w : World) (hb : Below W0.heap.size W0 w) => (h0.at_.keep hb).hm.look hn.1 hn.2)
  have HP := Lib.hid (fun (w : World) (hb : Below W0.heap.size W0 w) => pput_calls w base τ B m a al O mb (h0.at_.keep hb) (by have := h0.hbase; have := hb.size; omega) h0.cur _ _ _ (leafN_in _ _ 8 n))
  have HH := Lib.hid (And.intro h (And.intro hb hW0))
  have HTB := Lib.hid htb'
  clear h0 h hb htb hW0 htb' k0
  go_enter Tryz.func50, Tryz.ntmps50
  go_wp2_with fail
  rw [← HH.out.2.2, ← HTB.out]
  refine go_start (fun w' => Below W0.heap.size W0 w') [] [.p 0, .p 1, .p 2, .t 3, .p 4, .t 5, .o 6, .p 7] (by kernel_rfl) (by kernel_rfl) (fun c d v a w h => by cases d <;> exact h) ((Below.refl _ W0).drew) (fun w1 hS1 => ?_)
  repeat first
  | refine go_p (v := ?_) (b := ?_) rfl (.inl ⟨by rfl, ?_⟩) ?_ ?_
    rotate_left 2
    · intro w'; go_simp; with_reducible rfl
    · simp only [Act.put, pu_, pz_, ps_, i64_w, i32_w]; rfl
  | refine go_t (v := ?_) (b := ?_) rfl (.inl ⟨by rfl, ?_⟩) ?_ ?_
    rotate_left 2
    · intro w' hS; have hc := Below.cells hS; go_simp; with_reducible rfl
    · simp only [Act.put, pu_, pz_, ps_, i64_w, i32_w]; rfl
  obtain ⟨x, hrun, hx⟩ := HLK.out w1 hS1
  refine go_val (v := .int .i64 x) (w1 := w1) rfl (by rfl) (lookup_run rfl rfl hrun) (by simp only [Act.put, List.setIfInBounds_toArray, List.set_cons_zero, List.set_cons_succ]; rfl) hS1 ?_
  have HP1 := Lib.hid (HP.out w1 hS1)
  have HS := Lib.hid hS1
  have k3' := (hS1.cell (p := ⟨tb, 3, none⟩) ltb).trans k3
  have ltb1 := Nat.lt_of_lt_of_le ltb hS1.size
  clear HLK hS1 kB lB k3 ltb
  by_cases hc : n ∈ m.ended
  · have hx0 : (x == 0) = false := by rw [beq_eq_false_iff_ne]; exact fun e => (hx.1 e) hc
    have HX := Lib.hid (show R = .ok (m.put (leafN 8 n [])) from HR.out.trans (if_pos (by simpa using hc)))
    clear hx hc
    repeat
      refine go_p (v := ?_) (b := ?_) rfl (.inl ⟨by rfl, ?_⟩) ?_ ?_
      rotate_left 2
      · intro w'; go_simp; with_reducible rfl
      · simp only [Act.put, pu_, pz_, ps_, i64_w, i32_w]; rfl
    refine go_done ?_
    go_wp2_with fail
    refine HP1.out.mono ?_
    rintro e w' ⟨rfl, hm⟩
    have HM := Lib.hid hm
    clear hm HP1
    go_wp2_with fail
    go_ret
    rw [HX.out]
    obtain ⟨τ', g1, g2⟩ := HM.out
    exact ⟨rfl, τ', _, _, g1, (MkStp.of_below (Below.up HH.out.2.1 HS.out)).trans g2⟩
  · have hx0 : x = 0 := hx.2 hc
    subst hx0
    have HX := Lib.hid (show R = .error 41 from HR.out.trans (if_neg (by simpa using hc)))
    clear hx hc
    repeat
      refine go_p (v := ?_) (b := ?_) rfl (.inl ⟨by rfl, ?_⟩) ?_ ?_
      rotate_left 2
      · intro w'; go_simp; with_reducible rfl
      · simp only [Act.put, pu_, pz_, ps_, i64_w, i32_w]; rfl
    refine go_done ?_
    go_wp2_with fail
    go_ret
    rw [HX.out]
    exact ⟨rfl, Below.up HH.out.2.1 HS.out⟩
end
end Go.Proofs.YtamhkdlcoghdbaaGreatDoor.PCls
/- Out of Pj (wip/tools/prune2.py): the declarations alone that the texts of the trees name. -/
namespace Go.Proofs.YtamhkdlcoghdbaaGreatDoor.PCls
open Go.RowKit Go.Shelf Go.Proofs.YtamhkdlcoghdbaaGreatDoorW.PrintWords Go.Proofs.YtamhkdlcoghdbaaGreatDoorW.PrintLast Go.Proofs.YtamhkdlcoghdbaaGreatDoorW.PrintMore
set_option linter.unusedVariables false
set_option linter.unusedSimpArgs false
section
variable (W : World) (base : Nat) (τ : Nat → Nat) (B : Nat) (m : MS) (a : Nat) (al : List Nat) (O : Value) (mb : Nat) (h : TokPre W base τ B m a al O mb)
include h
set_option maxHeartbeats 8000000 in
set_option maxRecDepth 100000 in
theorem tok_rep (sat fin n lo hi : Int) (A : Option Addr) (L c : Nat) (p : PT) (hl : m.top.cur.getLast? = some p) :
    Calls Tryz.prog 50 #[.pointer (some ⟨B, 0, none⟩), .agg #[.int .i64 2, .int .i64 sat, .int .i64 fin, .int .i64 n, .int .i64 lo, .int .i64 hi, .slice A L c]] W fun e w' => TokPost W w' e base τ B mb (.ok (m.rep p lo hi)) := by
  obtain ⟨W0, hW0⟩ : ∃ X, X = W.alloc (.cells #[.int .i64 2, .int .i64 sat, .int .i64 fin, .int .i64 n, .int .i64 lo, .int .i64 hi, .slice A L c] 37) := ⟨_, rfl⟩
  have h0 := TokPre.alloc W base τ B m a al O mb h (.cells #[.int .i64 2, .int .i64 sat, .int .i64 fin, .int .i64 n, .int .i64 lo, .int .i64 hi, .slice A L c] 37)
  have hb := (Below.refl W.heap.size W).alloc (Nat.le_refl _) (.cells #[.int .i64 2, .int .i64 sat, .int .i64 fin, .int .i64 n, .int .i64 lo, .int .i64 hi, .slice A L c] 37)
  have htb := heap_alloc_new W (.cells #[.int .i64 2, .int .i64 sat, .int .i64 fin, .int .i64 n, .int .i64 lo, .int .i64 hi, .slice A L c] 37)
  rw [← hW0] at h0 hb htb
  obtain ⟨tb, htb'⟩ : ∃ tb, tb = W.heap.size := ⟨_, rfl⟩
  rw [← htb'] at htb
  obtain ⟨⟨V, U, b, ds, us, ht⟩, hgs⟩ := h0.at_.gs
  have hne : m.top.cur ≠ [] := by intro e; rw [e] at hl; simp at hl
  have hpos : 0 < m.top.cur.length := List.length_pos_iff.2 hne
  obtain ⟨u, cu, rfl, hcu⟩ : ∃ u cu, U = .slice (some ⟨u, 0, none⟩) m.top.cur.length cu ∧ m.top.cur.length ≤ cu := by
    rcases ht.hU.2 with ⟨_, hz⟩ | ⟨g, cap, cur, e, _, _, hc, _⟩
    · omega
    · exact ⟨g, cap, e, hc⟩
  have HT := Lib.hid (fun (w : World) (hb : Below W0.heap.size W0 w) => ptop_calls w base τ B m a al O mb (h0.at_.keep hb))
  have HL := Lib.hid (fun (w : World) (hb : Below W0.heap.size W0 w) => plast_calls w base τ _ _ _ _ _ _ _ _ (ht.keep hb.size (fun k _ hk _ => ⟨hb.block k hk, rfl⟩)))
  have lbb := blk_lt ht.hb
  have lu := (ownLt ht.hU u rfl).2
  have HBB := Lib.hid (And.intro ht.hb htb)
  obtain ⟨curu, hcuru, _⟩ := own_block ht.hU
  have HBU := Lib.hid hcuru
  clear hcuru
  obtain ⟨N, hN⟩ : ∃ N, N = m.top.cur.length := ⟨_, rfl⟩
  rw [← hN] at hcu ht
  have hNl : N < 1000000 := by rw [hN]; exact h.cur
  have HM := Lib.hid (fun (w : World) (hb : Below W0.heap.size W0 w) => rep_mem h0.at_ ht h0.hbase hN hne hl (lo := lo) (hi := hi) hb)
  rw [← hN] at HBB
  obtain ⟨K, rfl⟩ : ∃ K, N = K + 1 := ⟨N - 1, by omega⟩
  have HH := Lib.hid (And.intro h (And.intro hb hW0))
  have HTB := Lib.hid htb'
  clear hN
  have ltb := blk_lt htb
  clear h0 h hb htb hW0 htb' hgs hne hpos hl ht
  go_enter Tryz.func50, Tryz.ntmps50
  go_wp2_with fail
  rw [← HH.out.2.2, ← HTB.out]
  refine (HT.out W0 (Below.refl _ _)).mono ?_
  rintro e w1 ⟨rfl, hb1⟩
  have HB1 := Lib.hid hb1
  clear hb1 HT
  go_wp2_with fail
  refine (HL.out w1 HB1.out).mono ?_
  rintro e w2 ⟨rfl, hb2⟩
  have HB2 := Lib.hid (Below.up HB1.out hb2)
  clear hb2 HL
  have hbk := (HB2.out.block b lbb).trans HBB.out.1
  have htk := (HB2.out.block tb ltb).trans HBB.out.2
  have k0 : w2.cell? ⟨b, 0, none⟩ = some (.slice (some ⟨u, 0, none⟩) (K + 1) cu) := lk_cell (i := 0) hbk rfl
  have k4 : w2.cell? ⟨tb, 4, none⟩ = some (.int .i64 lo) := lk_cell (i := 4) htk rfl
  have k5 : w2.cell? ⟨tb, 5, none⟩ = some (.int .i64 hi) := lk_cell (i := 5) htk rfl
  obtain ⟨v, hv, ⟨ty, x, rfl⟩, hstep⟩ := HM.out w2 HB2.out
  rw [Nat.add_sub_cancel] at hv hstep
  have lb2 := blk_lt hbk
  have ltb2 := blk_lt htk
  have lu2 : u < w2.heap.size := Nat.lt_of_lt_of_le lu HB2.out.size
  have hv1 : wrap64 (((K + 1 : Nat) : Int) - 1) = (K : Int) := (w64_in _ (by omega) (by omega)).trans (by omega)
  have i1 : (0 : Int) ≤ (K : Int) := by omega
  have i2 : (K : Int) < ((K + 1 : Nat) : Int) := by omega
  have i3 : K < K + 1 := by omega
  clear hstep hbk htk lbb lu ltb
  obtain ⟨M, hM⟩ : ∃ M, M = K + 1 := ⟨_, rfl⟩
  rw [← hM] at k0 hv1 i2 i3 hcu
  clear hM hNl HBB
  go_wp2_with fail
  refine go_start (fun w' => Below w2.heap.size w2 w') [19] [.p 0, .p 1, .p 2, .t 3, .p 4, .p 5, .p 6, .p 7, .t 8, .p 9, .p 10, .t 11, .p 12, .t 13, .p 14, .t 15, .p 16, .p 17, .p 18, .z 19] (by kernel_rfl) (by kernel_rfl) (fun c d v a w h => by cases d <;> exact h) ((Below.refl _ w2).drew) (fun w3 hS3 => ?_)
  repeat first
  | refine go_p (v := ?_) (b := ?_) rfl (.inl ⟨by rfl, ?_⟩) ?_ ?_
    rotate_left 2
    · intro w'; go_simp; with_reducible rfl
    · simp only [Act.put, List.setIfInBounds_toArray, List.set_cons_zero, List.set_cons_succ, i64_w, i32_w, hv1]; rfl
  | refine go_t (v := ?_) (b := ?_) rfl (.inl ⟨by rfl, ?_⟩) ?_ ?_
    rotate_left 2
    · intro w' hS; have hc := Below.cells hS; go_simp; with_reducible rfl
    · simp only [Act.put, List.setIfInBounds_toArray, List.set_cons_zero, List.set_cons_succ, i64_w, i32_w, hv1]; rfl
  have hB3 := HB2.out.trans (hS3.mono HB2.out.size)
  obtain ⟨v', hv', _, hst⟩ := HM.out w3 hB3
  rw [Nat.add_sub_cancel] at hv' hst
  have hv3 := (hS3.cell (p := ⟨u, K, none⟩) lu2).trans hv
  obtain rfl : v' = .iface ty x := by rw [hv3] at hv'; exact (Option.some.inj hv').symm
  have hf3 : ∀ o, w3.frozen? ⟨u, o, none⟩ = false := fun o => by simp [World.frozen?, (hB3.block u (blk_lt HBU.out)).trans HBU.out]
  have HST := Lib.hid hst
  have HW3 := Lib.hid hB3
  clear hst hv' hv hS3 hB3 HM k0 k4 k5 lb2 ltb2 lu2
  refine go_skipz (w1 := w3.setCell ⟨u, K, none⟩ (ofV (.iface ty x) lo hi)) rfl (by rfl) (by unfold ofV; go_simp; first | done | rfl) ?_
  refine go_done ?_
  go_wp2_with fail
  go_ret
  obtain ⟨τ', g1, g2⟩ := HST.out
  exact ⟨rfl, τ', _, _, g1, (MkStp.of_below HH.out.2.1).trans g2⟩
end
end Go.Proofs.YtamhkdlcoghdbaaGreatDoor.PCls
/- Out of Pk (wip/tools/prune2.py): the declarations alone that the texts of the trees name. -/
namespace Go.Proofs.YtamhkdlcoghdbaaGreatDoor.PCls
open Go.RowKit Go.Shelf Go.Proofs.YtamhkdlcoghdbaaGreatDoorW.PrintWords Go.Proofs.YtamhkdlcoghdbaaGreatDoorW.PrintLast Go.Proofs.YtamhkdlcoghdbaaGreatDoorW.PrintMore
set_option linter.unusedVariables false
set_option linter.unusedSimpArgs false
/-- A call of a Go function, by its contract, behind which nothing is shown. -/
theorem go_callz {P : Program} {ops : Array Oper} {Q : Exit → Act → World → Prop} {S : World → Prop} {r : List Stg} {i : Nat} {a : Act} {w : World} {N : Option Tmp} {ty : TypeId} {ps : String} {af : Array Edge} {gd : Option (Nat × Bool)} {f : FuncId} {fn : Func} {ags : Array Operand} {ts : Array TypeId} {args : Array Value} {R : Ending → World → Prop} (hi : ops[i]? = some ⟨N, .call { callee := .value (.func f), args := ags, argTypes := ts }, ty, ps, af, gd⟩)
  (hw : Region.wanted ⟨N, .call { callee := .value (.func f), args := ags, argTypes := ts }, ty, ps, af, gd⟩ (yielded ops a.tmps) = true) (hf : P.funcs[f]? = some fn) (hname : (fn.name == "runtime.NumGoroutine") = false) (hb : fn.body.isSome = true) (hargs : ags.map a.eval = args) (hcall : Calls P f args w R)
  (h : ∀ e w', R e w' → ∃ v b, e = .returned v ∧ a.put N v = b ∧ Go P ops Q S r b w') : Go P ops Q S (.z i :: r) a w := by
 refine ⟨_, hi, fun K hK => ?_⟩
 refine goes_ hf hname hb args hw rfl rfl hargs (hcall.mono fun e w' hR => ?_)
 obtain ⟨v, b, he, hp, hk⟩ := h e w' hR
 subst hp
 exact ⟨v, he, hK.out _ _ hk⟩
section
variable (W : World) (base : Nat) (τ : Nat → Nat) (B : Nat) (m : MS) (a : Nat) (al : List Nat) (O : Value) (mb : Nat) (h : TokPre W base τ B m a al O mb)
include h
set_option maxHeartbeats 8000000 in
set_option maxRecDepth 100000 in
theorem tok_alt (sat fin n lo hi : Int) (A : Option Addr) (L c : Nat) :
  Calls Tryz.prog 50 #[.pointer (some ⟨B, 0, none⟩), .agg #[.int .i64 5, .int .i64 sat, .int .i64 fin, .int .i64 n, .int .i64 lo, .int .i64 hi, .slice A L c]] W fun e w' => TokPost W w' e base τ B mb (.ok { m with top := ⟨m.top.n, m.top.pl, m.top.all, []⟩ }) := by
 obtain ⟨i0, hi0, hz0, hz1, hz2⟩ := info_parts info155
 obtain ⟨W0, hW0⟩ : ∃ X, X = W.alloc (.cells #[.int .i64 5, .int .i64 sat, .int .i64 fin, .int .i64 n, .int .i64 lo, .int .i64 hi, .slice A L c] 37) := ⟨_, rfl⟩
 have h0 := TokPre.alloc W base τ B m a al O mb h (.cells #[.int .i64 5, .int .i64 sat, .int .i64 fin, .int .i64 n, .int .i64 lo, .int .i64 hi, .slice A L c] 37)
 have hb := (Below.refl W.heap.size W).alloc (Nat.le_refl _) (.cells #[.int .i64 5, .int .i64 sat, .int .i64 fin, .int .i64 n, .int .i64 lo, .int .i64 hi, .slice A L c] 37)
 rw [← hW0] at h0 hb
 obtain ⟨⟨V, U, b, ds, us, ht⟩, hgs⟩ := h0.at_.gs
 have HT := Lib.hid (ptop_calls W0 base τ B m a al O mb h0.at_)
 obtain ⟨AV, cV, rfl, hcV⟩ := own_form ht.hV
 have la := blk_lt ht.ha
 have HA := Lib.hid (And.intro ht (And.intro h0.hbase (And.intro h0.done h0.at_)))
 have HH := Lib.hid (And.intro h (And.intro hb hW0))
 clear h0 h hb hW0 hgs ht
 go_enter Tryz.func50, Tryz.ntmps50
 go_wp2_with fail
 rw [← HH.out.2.2]
 refine HT.out.mono ?_
 rintro e w1 ⟨rfl, hb1⟩
 obtain ⟨b', hb'⟩ : ∃ b', b' = w1.heap.size := ⟨_, rfl⟩
 have hak := (hb1.block a la).trans HA.out.1.ha
 have k2 : w1.cell? ⟨a, 2, none⟩ = some (.slice AV (m.top.done.length + 1) cV) := lk_cell (i := 2) hak rfl
 have la1 := blk_lt hak
 obtain ⟨X, hX⟩ : ∃ X, X = (w1.alloc (.cells #[.slice none 0 0] 151)).alloc (.cells #[brV w1.heap.size] 155) := ⟨_, rfl⟩
 have bX1 := hb1.alloc hb1.size (.cells #[.slice none 0 0] 151)
 have bX := bX1.alloc bX1.size (.cells #[brV w1.heap.size] 155)
 have kX : X.cell? ⟨a, 2, none⟩ = some (.slice AV (m.top.done.length + 1) cV) := by
  rw [hX]; exact lk_cell (i := 2) ((heap_alloc_old _ _ (by simp; omega)).trans ((heap_alloc_old _ _ la1).trans hak)) rfl
 have zX : X.heap.size = w1.heap.size + 2 := by rw [hX]; simp
 have gb' : X.heap[w1.heap.size]? = some (.cells #[.slice none 0 0] 151 (0, 0)) := by rw [hX]; exact (heap_alloc_old _ _ (by simp)).trans (heap_alloc_new w1 _)
 rw [← hX] at bX
 have hownX : X.ownsRow base 155 1 (.slice AV (m.top.done.length + 1) cV) (m.top.done.length + 1) (ds ++ [brV b]) := ownMove HA.out.1.hV (fun k hk => bX.block k (ownLt HA.out.1.hV k hk).2)
 obtain ⟨V', W4, hrun, hown, hgrow, hnil, hat⟩ := run_append_own_at X base 94 94 155 i0 _ 1 16 Tryz.underlying94 hi0 hz0 hz1 hz2 rfl (by decide) _ _ _ hownX ⟨w1.heap.size + 1, 0, none⟩ 1 1 [brV w1.heap.size] rfl
  (fun j u hu => by
   match j, hu with
   | 0, hu => cases hu; rw [hX]; exact lk_cell (i := 0) (alloc_at (by simp)) rfl
   | j + 1, hu => simp at hu) (by intro u hu; simp at hu; subst hu; rfl) (by unfold maxLen; have := HA.out.2.2.1; omega) (by have := HA.out.2.2.1; omega) (by have := HA.out.2.1; have := hb1.size; omega)
 obtain ⟨A', c', rfl, hcc'⟩ := own_form hown
 obtain ⟨τ', g1, g2⟩ := alt_mem HA.out.2.2.2 HA.out.1 HA.out.2.1 bX gb' hb1.size hgrow hown hat
 have HE := Lib.hid (And.intro g1 g2)
 have haV : some a ≠ (Value.slice AV (m.top.done.length + 1) cV).ownBlock := fun e => by
  have h3 := HA.out.1.tV a e.symm
  have h4 := HA.out.1.ta
  simp only [tg] at h3 h4; omega
 have ha4 := (hgrow.block a (by omega) haV).trans ((bX.block a la).trans HA.out.1.ha)
 have hf4 : ∀ o, W4.frozen? ⟨a, o, none⟩ = false := fun o => by simp [World.frozen?, ha4]
 have k4 : W4.cell? ⟨a, 2, none⟩ = some (.slice AV (m.top.done.length + 1) cV) := lk_cell (i := 2) ha4 rfl
 rw [hX] at hrun kX
 have HRUN := Lib.hid (show (Builtin.append_ #[94, 94] 94 #[.slice AV (m.top.done.length + 1) cV, .slice (some ⟨w1.heap.size + 1, 0, none⟩) 1 1]).run Tryz.prog ((w1.alloc (.cells #[.slice none 0 0] 151)).alloc (.cells #[.iface 150 (.pointer (some ⟨w1.heap.size, 0, none⟩))] 155)) = .ok (.slice A' (m.top.done.length + 1 + 1) c') W4 from hrun)
 have kX' : ((w1.alloc (.cells #[.slice none 0 0] 151)).alloc (.cells #[.iface 150 (.pointer (some ⟨w1.heap.size, 0, none⟩))] 155)).cell? ⟨a, 2, none⟩ = some (.slice AV (m.top.done.length + 1) cV) := kX
 clear hrun hown hgrow hnil hat hownX g1 g2 bX bX1 hX zX gb' haV ha4 hb1 hak HT kX hb' hi0 hz0 hz1 hz2
 generalize m.top.done.length + 1 = N at *
 go_wp2_with (at_builtin; refine Lib.wpList_append_run _ rfl _ _ _ _ rfl _ _ rfl rfl _ _ HRUN.out ?_)
 go_ret
 obtain ⟨h1, h2⟩ := HE.out
 exact ⟨rfl, τ', _, _, h1, (MkStp.of_below HH.out.2.1).trans h2⟩
end
end Go.Proofs.YtamhkdlcoghdbaaGreatDoor.PCls
/- Out of Pl (wip/tools/prune2.py): the declarations alone that the texts of the trees name. -/
namespace Go.Proofs.YtamhkdlcoghdbaaGreatDoor.PCls
open Go.RowKit Go.Shelf Go.Proofs.YtamhkdlcoghdbaaGreatDoorW.PrintWords Go.Proofs.YtamhkdlcoghdbaaGreatDoorW.PrintLast Go.Proofs.YtamhkdlcoghdbaaGreatDoorW.PrintMore
set_option linter.unusedVariables false
set_option linter.unusedSimpArgs false
/-- how many groups, written -/
theorem many_mem {W : World} {base : Nat} {τ : Nat → Nat} {B : Nat} {m : MS} {al : List Nat} {O : Value} {mb : Nat} (h : MkAt W base τ B m al O mb) (x : Int) :
    MkAt (W.setCell ⟨B, 1, none⟩ (.int .i64 x)) base τ B { m with many := x } al O mb ∧ MkStp W (W.setCell ⟨B, 1, none⟩ (.int .i64 x)) base τ τ := by
  have hfr : ∀ k, τ k ≠ 1 → (W.setCell ⟨B, 1, none⟩ (.int .i64 x)).heap[k]? = W.heap[k]? := fun k hk => Below.heap_setCell W ⟨B, 1, none⟩ _ k (fun e => hk (by rw [e]; exact h.tB))
  have hsz : (W.setCell ⟨B, 1, none⟩ (.int .i64 x)).heap.size = W.heap.size := by simp [World.setCell]
  refine ⟨⟨h.tB, h.lB, h.tO, h.tm, h.lm, set_blk h.hB 1 _, ownMove h.hO (fun k hk => hfr k (by rw [h.tO k hk]; decide)), h.hm.move (hfr mb (by rw [h.tm]; decide)), h.gs.keep (by omega) (fun k _ _ h3 => ⟨hfr k (by omega), rfl⟩)⟩, ⟨rfl, rfl, rfl, by omega, fun k hk hb => ?_, fun _ _ _ h => h⟩⟩
  rcases hb with hb | hb
  · exact Below.heap_setCell W ⟨B, 1, none⟩ _ k (by have := h.lB; simp only; omega)
  · exact hfr k (by omega)
section
variable (W : World) (base : Nat) (τ : Nat → Nat) (B : Nat) (m : MS) (a : Nat) (al : List Nat) (O : Value) (mb : Nat) (h : TokPre W base τ B m a al O mb)
include h
set_option maxHeartbeats 8000000 in
set_option maxRecDepth 100000 in
theorem tok_open (sat fin n lo hi : Int) (A : Option Addr) (L c : Nat) (R : Except Int MS) (hR : R = if m.many = 30 then .error 42 else .ok ⟨⟨m.many + 1, sat, [], []⟩, m.top :: m.below, m.many + 1, m.ended⟩) :
    Calls Tryz.prog 50 #[.pointer (some ⟨B, 0, none⟩), .agg #[.int .i64 3, .int .i64 sat, .int .i64 fin, .int .i64 n, .int .i64 lo, .int .i64 hi, .slice A L c]] W fun e w' => TokPost W w' e base τ B mb R := by
  have HR := Lib.hid hR
  obtain ⟨W0, hW0⟩ : ∃ X, X = W.alloc (.cells #[.int .i64 3, .int .i64 sat, .int .i64 fin, .int .i64 n, .int .i64 lo, .int .i64 hi, .slice A L c] 37) := ⟨_, rfl⟩
  have h0 := TokPre.alloc W base τ B m a al O mb h (.cells #[.int .i64 3, .int .i64 sat, .int .i64 fin, .int .i64 n, .int .i64 lo, .int .i64 hi, .slice A L c] 37)
  have hb := (Below.refl W.heap.size W).alloc (Nat.le_refl _) (.cells #[.int .i64 3, .int .i64 sat, .int .i64 fin, .int .i64 n, .int .i64 lo, .int .i64 hi, .slice A L c] 37)
  have htb := heap_alloc_new W (.cells #[.int .i64 3, .int .i64 sat, .int .i64 fin, .int .i64 n, .int .i64 lo, .int .i64 hi, .slice A L c] 37)
  rw [← hW0] at h0 hb htb
  obtain ⟨tb, htb'⟩ : ∃ tb, tb = W.heap.size := ⟨_, rfl⟩
  rw [← htb'] at htb
  have hBk := h0.at_.hB
  have k1 : W0.cell? ⟨B, 1, none⟩ = some (.int .i64 m.many) := lk_cell (i := 1) hBk rfl
  have lB := blk_lt hBk
  have hf : ∀ o, W0.frozen? ⟨B, o, none⟩ = false := fun o => by simp [World.frozen?, hBk]
  have hBtb : ¬ tb = B := fun e => by have := blk_lt h.at_.hB; omega
  have HA := Lib.hid (And.intro h0 htb)
  have HH := Lib.hid (And.intro h (And.intro hb hW0))
  have HTB := Lib.hid htb'
  have hmn := h.many
  have hmd := h.below
  clear h0 hb hW0 htb htb' hBk hR h
  obtain ⟨M, hM⟩ : ∃ M, M = m.many := ⟨_, rfl⟩
  rw [← hM] at k1 hmn
  have HM := Lib.hid hM
  clear hM
  by_cases h30 : M = 30
  · have HX := Lib.hid (show R = .error 42 from HR.out.trans (if_pos (HM.out.symm.trans h30)))
    subst h30
    go_enter Tryz.func50, Tryz.ntmps50
    go_upto_block 0 with fail
    rw [← HH.out.2.2, ← HTB.out]
    go_wp2_with fail
    go_ret
    rw [HX.out]
    exact ⟨rfl, HH.out.2.1⟩
  · have HX := Lib.hid (show R = .ok ⟨⟨M + 1, sat, [], []⟩, m.top :: m.below, M + 1, m.ended⟩ from HR.out.trans (by rw [HM.out] at h30; rw [if_neg h30, HM.out]))
    have h30' : (M == 30) = false := by rw [beq_eq_false_iff_ne]; exact h30
    have hw : M + 1 ≤ 100 := by omega
    have hw0 : 0 ≤ M := hmn.1
    obtain ⟨W6, hW6⟩ : ∃ X, X = W0.setCell ⟨B, 1, none⟩ (.int .i64 (M + 1)) := ⟨_, rfl⟩
    obtain ⟨g1, g2⟩ := many_mem HA.out.1.at_ (M + 1)
    rw [← hW6] at g1 g2
    have kB : W6.cell? ⟨B, 1, none⟩ = some (.int .i64 (M + 1)) := lk_cell (i := 1) g1.hB rfl
    have htb6 : W6.heap[tb]? = some (.cells #[.int .i64 3, .int .i64 sat, .int .i64 fin, .int .i64 n, .int .i64 lo, .int .i64 hi, .slice A L c] 37 (0, 0)) := by rw [hW6]; exact (Below.heap_setCell W0 ⟨B, 1, none⟩ _ tb hBtb).trans HA.out.2
    have kt : W6.cell? ⟨tb, 1, none⟩ = some (.int .i64 sat) := lk_cell (i := 1) htb6 rfl
    have lB6 := blk_lt g1.hB
    have lt6 := blk_lt htb6
    have HG := Lib.hid (And.intro g1 g2)
    have HW6 := Lib.hid hW6
    clear g1 g2 htb6 hW6 h30 hmn
    go_enter Tryz.func50, Tryz.ntmps50
    go_upto_block 0 with fail
    rw [← HH.out.2.2, ← HTB.out]
    go_wp2_with fail
    rw [← HW6.out]
    clear k1 lB hf hBtb
    refine go_start (fun w' => Below W6.heap.size W6 w') [7] [.p 0, .p 1, .p 2, .p 3, .t 4, .p 5, .t 6, .z 7] (by kernel_rfl) (by kernel_rfl) (fun c d v a w h => by cases d <;> exact h) ((Below.refl _ W6).drew) (fun w7 hS7 => ?_)
    repeat first
    | refine go_p (v := ?_) (b := ?_) rfl (.inl ⟨by rfl, ?_⟩) ?_ ?_
      rotate_left 2
      · intro w'; go_simp; with_reducible rfl
      · simp only [Act.put, pu_, pz_, ps_, i64_w, i32_w]; rfl
    | refine go_t (v := ?_) (b := ?_) rfl (.inl ⟨by rfl, ?_⟩) ?_ ?_
      rotate_left 2
      · intro w' hS; have hc := Below.cells hS; go_simp; with_reducible rfl
      · simp only [Act.put, pu_, pz_, ps_, i64_w, i32_w]; rfl
    have g7 := HG.out.1.keep hS7
    have hb7 : base ≤ w7.heap.size := by have h1 := HG.out.2.size; have h2 := HA.out.1.hbase; have h3 := hS7.size; omega
    refine go_callz rfl (by rfl) Tryz.func49 (by kernel_rfl) rfl (by simp only [List.map_toArray, List.map_cons, List.map_nil]; rfl) (begin_calls w7 base B (M + 1) sat (M + 1) (.map (some mb)) O (m.below.length + 1) ((a :: al).reverse.map grP) g7.hB g7.hO hb7 (by omega) (fun e => by have h1 := g7.tO B e; rw [g7.tB] at h1; omega)) ?_
    rintro e w8 ⟨rfl, O', hbeg⟩
    obtain ⟨τ', q1, q2⟩ := open_mem g7 hb7 hbeg
    have HQ := Lib.hid (And.intro q1 ((MkStp.of_below HH.out.2.1).trans (HG.out.2.trans ((MkStp.of_below hS7).trans q2))))
    clear q1 q2 hbeg g7 hS7
    refine ⟨_, _, rfl, (by simp only [Act.put, List.setIfInBounds_toArray, List.set_cons_zero, List.set_cons_succ]; rfl), ?_⟩
    refine go_done ?_
    go_wp2_with fail
    go_ret
    rw [HX.out]
    exact ⟨rfl, τ', _, _, HQ.out.1, HQ.out.2⟩
end
end Go.Proofs.YtamhkdlcoghdbaaGreatDoor.PCls
/- Out of Pm (wip/tools/prune2.py): the declarations alone that the texts of the trees name. -/
namespace Go.Proofs.YtamhkdlcoghdbaaGreatDoor.PCls
open Go.RowKit Go.Shelf Go.Proofs.YtamhkdlcoghdbaaGreatDoorW.PrintWords Go.Proofs.YtamhkdlcoghdbaaGreatDoorW.PrintLast Go.Proofs.YtamhkdlcoghdbaaGreatDoorW.PrintMore
set_option linter.unusedVariables false
set_option linter.unusedSimpArgs false
theorem grown_below {A B C : World} {row : Option Nat} (h : Below A.heap.size A B) (hg : B.grownBy C row) : A.grownBy C row :=
  ⟨hg.os.trans h.os, hg.tape.trans h.tape, hg.output.trans h.output, Nat.le_trans h.size hg.size, fun k hk hn => (hg.block k (Nat.lt_of_lt_of_le hk h.size) hn).trans (h.block k hk)⟩
section
variable (W : World) (base : Nat) (τ : Nat → Nat) (B : Nat) (m : MS) (a : Nat) (al : List Nat) (O : Value) (mb : Nat) (h : TokPre W base τ B m a al O mb)
include h
set_option maxHeartbeats 8000000 in
set_option maxRecDepth 100000 in
theorem tok_close0 (sat fin n lo hi : Int) (A : Option Addr) (L c : Nat) (hbl : m.below = []) :
    Calls Tryz.prog 50 #[.pointer (some ⟨B, 0, none⟩), .agg #[.int .i64 4, .int .i64 sat, .int .i64 fin, .int .i64 n, .int .i64 lo, .int .i64 hi, .slice A L c]] W fun e w' => TokPost W w' e base τ B mb (.error 40) := by
  obtain ⟨W0, hW0⟩ : ∃ X, X = W.alloc (.cells #[.int .i64 4, .int .i64 sat, .int .i64 fin, .int .i64 n, .int .i64 lo, .int .i64 hi, .slice A L c] 37) := ⟨_, rfl⟩
  have h0 := TokPre.alloc W base τ B m a al O mb h (.cells #[.int .i64 4, .int .i64 sat, .int .i64 fin, .int .i64 n, .int .i64 lo, .int .i64 hi, .slice A L c] 37)
  have hb := (Below.refl W.heap.size W).alloc (Nat.le_refl _) (.cells #[.int .i64 4, .int .i64 sat, .int .i64 fin, .int .i64 n, .int .i64 lo, .int .i64 hi, .slice A L c] 37)
  rw [← hW0] at h0 hb
  obtain ⟨o, co, rfl, hco⟩ := own_form h0.at_.hO
  have k0 : W0.cell? ⟨B, 0, none⟩ = some (.slice o (m.below.length + 1) co) := lk_cell (i := 0) h0.at_.hB rfl
  rw [hbl, List.length_nil, Nat.zero_add] at k0
  have lB := blk_lt h0.at_.hB
  have HH := Lib.hid (And.intro h (And.intro hb hW0))
  clear h0 hb hW0 hbl h hco
  go_enter Tryz.func50, Tryz.ntmps50
  go_upto_block 0 with fail
  rw [← HH.out.2.2]
  go_wp2_with fail
  go_ret
  exact ⟨rfl, HH.out.2.1⟩
set_option maxHeartbeats 8000000 in
set_option maxRecDepth 100000 in
theorem tok_close1 (sat fin n lo hi : Int) (A : Option Addr) (L c : Nat) (g' : GS) (b' : List GS) (hbl : m.below = g' :: b') (hfin : 0 < fin ∧ fin ≤ 1000000) (hn : -9223372036854775808 ≤ m.top.n ∧ m.top.n ≤ 9223372036854775807) (hcur : g'.cur.length < 1000000) :
    Calls Tryz.prog 50 #[.pointer (some ⟨B, 0, none⟩), .agg #[.int .i64 4, .int .i64 sat, .int .i64 fin, .int .i64 n, .int .i64 lo, .int .i64 hi, .slice A L c]] W fun e w' => TokPost W w' e base τ B mb (.ok ⟨g'.put m.top.whole, b', m.many, m.top.n :: m.ended⟩) := by
  obtain ⟨W0, hW0⟩ : ∃ X, X = W.alloc (.cells #[.int .i64 4, .int .i64 sat, .int .i64 fin, .int .i64 n, .int .i64 lo, .int .i64 hi, .slice A L c] 37) := ⟨_, rfl⟩
  have h0 := TokPre.alloc W base τ B m a al O mb h (.cells #[.int .i64 4, .int .i64 sat, .int .i64 fin, .int .i64 n, .int .i64 lo, .int .i64 hi, .slice A L c] 37)
  have hb := (Below.refl W.heap.size W).alloc (Nat.le_refl _) (.cells #[.int .i64 4, .int .i64 sat, .int .i64 fin, .int .i64 n, .int .i64 lo, .int .i64 hi, .slice A L c] 37)
  have htb := heap_alloc_new W (.cells #[.int .i64 4, .int .i64 sat, .int .i64 fin, .int .i64 n, .int .i64 lo, .int .i64 hi, .slice A L c] 37)
  rw [← hW0] at h0 hb htb
  obtain ⟨tb, htb'⟩ : ∃ tb, tb = W.heap.size := ⟨_, rfl⟩
  rw [← htb'] at htb
  have hBtb : tb ≠ B := fun e => by have := blk_lt h.at_.hB; omega
  have hatb : tb ≠ a := fun e => by
    obtain ⟨⟨V, U, b, ds, us, ht⟩, _⟩ := h.at_.gs
    have := blk_lt ht.ha; omega
  have HH := Lib.hid (And.intro h (And.intro hb hW0))
  have HTB := Lib.hid htb'
  obtain ⟨top, below, many, ended⟩ := m
  simp only at hbl hn
  subst hbl
  obtain ⟨⟨V, U, b, ds, us, ht⟩, hgs⟩ := h0.at_.gs
  have hO := h0.at_.hO
  rw [List.reverse_cons, List.map_append] at hO
  obtain ⟨o, co, rfl, hco, _, lo1, k1, hb9⟩ := own_last hO
  have k0 : W0.cell? ⟨B, 0, none⟩ = some (.slice (some ⟨o, 0, none⟩) ((g' :: b').length + 1) co) := lk_cell (i := 0) h0.at_.hB rfl
  have lB := blk_lt h0.at_.hB
  have la := blk_lt ht.ha
  have hBa : a ≠ B := fun e => by have h1 := ht.ta; rw [e, h0.at_.tB] at h1; simp only [tg] at h1; omega
  have hfB : ∀ q, W0.frozen? ⟨B, q, none⟩ = false := fun q => by simp [World.frozen?, h0.at_.hB]
  obtain ⟨N, hN⟩ : ∃ N, N = b'.length + 1 := ⟨_, rfl⟩
  obtain ⟨M, hM⟩ : ∃ M, M = N + 1 := ⟨_, rfl⟩
  simp only [List.length_cons] at k0 k1 hco hb9
  rw [← hN] at k0 k1 hco hb9
  rw [← hM] at k0 hco hb9
  have hN1 : 1 ≤ N := by omega
  have HA := Lib.hid (And.intro h0 (And.intro ht (And.intro htb hgs)))
  have HN := Lib.hid (And.intro hN hM)
  have hv1 : wrap64 ((M : Int) - 1) = (N : Int) := (w64_in _ (by omega) (by omega)).trans (by omega)
  have i1 : (0 : Int) ≤ (N : Int) := by omega
  have i2 : (N : Int) < (M : Int) := by omega
  have i3 : N < M := by omega
  have i4 : ((M : Int) == 1) = false := by rw [beq_eq_false_iff_ne]; omega
  have i5 : (N : Int) ≤ (co : Int) := by omega
  have i6 : N ≤ co := by omega
  unfold grP at k1
  clear h h0 hb htb hW0 htb' hO hgs ht hN hM
  go_enter Tryz.func50, Tryz.ntmps50
  go_upto_block 0 with fail
  rw [← HH.out.2.2, ← HTB.out]
  go_wp2_with fail
  refine go_start (fun w' => Below W0.heap.size W0 w') [] [.p 0, .p 1, .p 2, .t 3, .p 4, .p 5, .p 6, .t 7, .p 8, .p 9, .p 10, .t 11, .p 12] (by kernel_rfl) (by kernel_rfl) (fun c d v a w h => by cases d <;> exact h) ((Below.refl _ W0).drew) (fun w1 hS1 => ?_)
  repeat first
  | refine go_p (v := ?_) (b := ?_) rfl (.inl ⟨by rfl, ?_⟩) ?_ ?_
    rotate_left 2
    · intro w'; go_simp; with_reducible rfl
    · simp only [Act.put, List.setIfInBounds_toArray, List.set_cons_zero, List.set_cons_succ, i64_w, i32_w, hv1]; rfl
  | refine go_t (v := ?_) (b := ?_) rfl (.inl ⟨by rfl, ?_⟩) ?_ ?_
    rotate_left 2
    · intro w' hS; have hc := Below.cells hS; go_simp; with_reducible rfl
    · simp only [Act.put, List.setIfInBounds_toArray, List.set_cons_zero, List.set_cons_succ, i64_w, i32_w, hv1]; rfl
  refine go_done ?_
  have HS1 := Lib.hid hS1
  have k0' : w1.cell? ⟨B, 0, none⟩ = some (.slice (some ⟨o, 0, none⟩) M co) := (hS1.cell (p := ⟨B, 0, none⟩) lB).trans k0
  have lB1 := Nat.lt_of_lt_of_le lB hS1.size
  clear k0 k1 hS1 lo1 lB hfB
  go_wp2_with fail
  refine go_start (fun w' => Below w1.heap.size w1 w') [14] [.p 0, .p 1, .p 2, .p 3, .t 4, .p 5, .p 6, .p 7, .t 8, .p 9, .p 10, .p 11, .p 12, .p 13, .z 14] (by kernel_rfl) (by kernel_rfl) (fun c d v a w h => by cases d <;> exact h) ((Below.refl _ w1).drew) (fun w2 hS2 => ?_)
  repeat first
  | refine go_p (v := ?_) (b := ?_) rfl (.inl ⟨by rfl, ?_⟩) ?_ ?_
    rotate_left 2
    · intro w'; go_simp; with_reducible rfl
    · simp only [Act.put, List.setIfInBounds_toArray, List.set_cons_zero, List.set_cons_succ, i64_w, i32_w, hv1]; rfl
  | refine go_t (v := ?_) (b := ?_) rfl (.inl ⟨by rfl, ?_⟩) ?_ ?_
    rotate_left 2
    · intro w' hS; have hc := Below.cells hS; go_simp; with_reducible rfl
    · simp only [Act.put, List.setIfInBounds_toArray, List.set_cons_zero, List.set_cons_succ, i64_w, i32_w, hv1]; rfl
  have hb2 := Below.up HS1.out hS2
  have hB2 := (hb2.block B (blk_lt HA.out.1.at_.hB)).trans HA.out.1.at_.hB
  have ha2 := (hb2.block a la).trans HA.out.2.1.ha
  have ht2 := (hb2.block tb (blk_lt HA.out.2.2.1)).trans HA.out.2.2.1
  have hf2 : ∀ q, w2.frozen? ⟨B, q, none⟩ = false := fun q => by simp [World.frozen?, hB2]
  have kb2 : w2.cell? ⟨B, 0, none⟩ = some (.slice (some ⟨o, 0, none⟩) M co) := (hS2.cell (p := ⟨B, 0, none⟩) lB1).trans k0'
  refine go_skipz (w1 := w2.setCell ⟨B, 0, none⟩ (.slice (some ⟨o, 0, none⟩) N co)) rfl (by rfl) (by go_simp; first | done | rfl) ?_
  refine go_done ?_
  obtain ⟨W3, hW3⟩ : ∃ X, X = w2.setCell ⟨B, 0, none⟩ (.slice (some ⟨o, 0, none⟩) N co) := ⟨_, rfl⟩
  have hB3 : W3.heap[B]? = some (.cells #[.slice (some ⟨o, 0, none⟩) N co, .int .i64 many, .map (some mb)] 91 (0, 0)) := by rw [hW3]; exact set_blk hB2 0 _
  have ha3 : W3.heap[a]? = some (.cells #[.int .i64 top.n, .int .i64 top.pl, V] 98 (0, 0)) := by rw [hW3]; exact (Below.heap_setCell w2 ⟨B, 0, none⟩ _ a hBa).trans ha2
  have ht3 : W3.heap[tb]? = some (.cells #[.int .i64 4, .int .i64 sat, .int .i64 fin, .int .i64 n, .int .i64 lo, .int .i64 hi, .slice A L c] 37 (0, 0)) := by rw [hW3]; exact (Below.heap_setCell w2 ⟨B, 0, none⟩ _ tb hBtb).trans ht2
  have hm3 : EndAt W3 mb ended := by
    refine (HA.out.1.at_.keep hb2).hm.move ?_
    rw [hW3]
    refine Below.heap_setCell w2 ⟨B, 0, none⟩ _ mb (fun e => ?_)
    have h1 := HA.out.1.at_.tm
    have e' : mb = B := e
    rw [e', HA.out.1.at_.tB] at h1; omega
  have q2 : W3.cell? ⟨B, 2, none⟩ = some (.map (some mb)) := lk_cell (i := 2) hB3 rfl
  have q0 : W3.cell? ⟨a, 0, none⟩ = some (.int .i64 top.n) := lk_cell (i := 0) ha3 rfl
  have qt : W3.cell? ⟨tb, 2, none⟩ = some (.int .i64 fin) := lk_cell (i := 2) ht3 rfl
  have lB3 := blk_lt hB3
  have la3 := blk_lt ha3
  have lt3 := blk_lt ht3
  have HW3 := Lib.hid (And.intro hW3 (And.intro hb2 hm3))
  rw [← hW3]
  clear hW3 hB3 ha3 ht3 hm3 hB2 ha2 ht2 hf2 kb2 hb2 hS2 k0' lB1 la hBtb hatb hBa
  go_wp2_with fail
  refine go_start (fun w' => Below W3.heap.size W3 w') [10] [.p 0, .p 1, .p 2, .t 3, .p 4, .p 5, .p 6, .t 7, .p 8, .t 9, .z 10] (by kernel_rfl) (by kernel_rfl) (fun c d v a w h => by cases d <;> exact h) ((Below.refl _ W3).drew) (fun w4 hS4 => ?_)
  repeat first
  | refine go_p (v := ?_) (b := ?_) rfl (.inl ⟨by rfl, ?_⟩) ?_ ?_
    rotate_left 2
    · intro w'; go_simp; with_reducible rfl
    · simp only [Act.put, List.setIfInBounds_toArray, List.set_cons_zero, List.set_cons_succ, i64_w, i32_w, hv1]; rfl
  | refine go_t (v := ?_) (b := ?_) rfl (.inl ⟨by rfl, ?_⟩) ?_ ?_
    rotate_left 2
    · intro w' hS; have hc := Below.cells hS; go_simp; with_reducible rfl
    · simp only [Act.put, List.setIfInBounds_toArray, List.set_cons_zero, List.set_cons_succ, i64_w, i32_w, hv1]; rfl
  obtain ⟨w5, hrun, he5, hg5⟩ := (HW3.out.2.2.move (W' := w4) (hS4.block mb (by obtain ⟨_, _, hown, _⟩ := HW3.out.2.2; exact hown.lt))).put hn.1 hn.2 (x := fin) (by omega) (by omega) (by omega) HA.out.1.ended
  refine go_skipz (w1 := w5) rfl (by rfl) (update_run rfl rfl rfl hrun) ?_
  refine go_done ?_
  have hgg : (w2.setCell ⟨B, 0, none⟩ (.slice (some ⟨o, 0, none⟩) (b'.length + 1) co)).grownBy w5 (some mb) := by
    rw [← HN.out.1, ← HW3.out.1]
    exact grown_below hS4 hg5
  have hat0 := HA.out.1.at_
  obtain ⟨τ5, m5, s5, p5⟩ := pop_mem HA.out.1.hbase hat0 HW3.out.2.1 he5 hgg
  have hb5 : base ≤ w5.heap.size := Nat.le_trans HA.out.1.hbase s5.size
  obtain ⟨a2, al2, rfl⟩ : ∃ a2 al2, al = a2 :: al2 := by
    have h1 := m5.gs.length
    cases al with
    | nil => simp at h1
    | cons a2 al2 => exact ⟨a2, al2, rfl⟩
  have HP := Lib.hid (pput_calls w5 base τ5 B _ a2 al2 _ mb m5 hb5 hcur _ _ _ p5)
  have HS5 := Lib.hid ((MkStp.of_below HH.out.2.1).trans s5)
  clear m5 s5 p5 hgg hat0 hrun he5 hg5 hS4 q2 q0 qt lB3 la3 lt3 hb5
  go_wp2_with fail
  refine HP.out.mono ?_
  rintro e w' ⟨rfl, τ', g1, g2⟩
  have HM := Lib.hid (And.intro g1 (HS5.out.trans g2))
  clear g1 g2 HP
  go_wp2_with fail
  go_ret
  exact ⟨rfl, τ', _, _, HM.out.1, HM.out.2⟩
end
end Go.Proofs.YtamhkdlcoghdbaaGreatDoor.PCls
