import Derived.Test.YtamhkdlcoghdbaaLOne
import Derived.Test.YtamhkdlcoghdbaaGTwo
import Derived.Test.YtamhkdlcoghdbaaGNamed
namespace Go.Proofs.Ytamhkdlcoghdbaa.PCls
open Go.RowKit Go.Proofs.YtamhkdlcoghdbaaW.PrintWords Go.Proofs.YtamhkdlcoghdbaaW.PrintLast Go.Proofs.YtamhkdlcoghdbaaW.PrintMore
set_option linter.unusedVariables false
set_option linter.unusedSimpArgs false

theorem lit_C (w : World) (l : List S64) (cs : Array Value) (h : cs = (rowOf l).toArray) (hl : l.length < 1000) : Kd.C k64 (w.alloc (.cells cs 64)) (some ⟨w.heap.size, 0, none⟩) l.length l := by
  have ho : (w.alloc (.cells cs 64)).ownsRow w.heap.size 64 2 (.slice (some ⟨w.heap.size, 0, none⟩) l.length l.length) l.length (rowOf l) :=
    ⟨rowOf_length l, .inr ⟨w.heap.size, l.length, cs, rfl, Nat.le_refl _, heap_alloc_new w _, Nat.le_refl _, by unfold maxLen; omega, by rw [h]; simp [rowOf_length], by rw [h, ← rowOf_length]; simp⟩⟩
  exact (rR (R_of_own (ok := fun _ => True) ho (fun _ _ => trivial))).2.2
theorem C_drawn {w w' : World} {A : Option Addr} {n : Nat} {l : List S64} (h : Kd.C k64 w A n l) (hd : Drawn0 w w') : Kd.C k64 w' A n l := by
  obtain ⟨m, rfl⟩ := hd.out
  exact cN h m
theorem B_drawn {B : Nat} {w0 w w' : World} (h : Below B w0 w) (hd : Drawn0 w w') : Below B w0 w' := by
  obtain ⟨m, rfl⟩ := hd.out
  exact wN h m

set_option maxHeartbeats 4000000 in
set_option maxRecDepth 100000 in
theorem dredgelaw06_examples.calls (r : Bool) (w : World) (h : dredgelaw06_examples.f = some r) :
    Calls Try.prog 16 #[] w fun e w' => e = .returned (.bool r) ∧ Below w.heap.size w w' := by
  obtain rfl := Option.some.inj h
  clear h
  obtain ⟨k1, n1⟩ := (norm_ends [⟨5, 7⟩, ⟨1, 2⟩, ⟨3, 3⟩, ⟨9, 8⟩] false (by simp) (by decide)).get
  rw [ex_norm] at n1
  obtain ⟨k2, n2⟩ := (alike_ends [⟨1, 3⟩, ⟨5, 7⟩] [⟨1, 3⟩, ⟨5, 7⟩] (by simp)).get
  obtain ⟨k3, n3⟩ := (alike_ends [⟨9, 9⟩, ⟨32, 32⟩] [⟨9, 9⟩, ⟨32, 32⟩] (by simp)).get
  obtain ⟨k4, n4⟩ := (alike_ends [⟨64, 66⟩, ⟨97, 98⟩] [⟨64, 66⟩, ⟨97, 98⟩] (by simp)).get
  obtain ⟨k5, n5⟩ := ex_count.get
  rw [decide_eq_true rfl] at n2 n3 n4
  have N1 := Lib.hid n1
  have N2 := Lib.hid n2
  have N3 := Lib.hid n3
  have N4 := Lib.hid n4
  have N5 := Lib.hid n5
  clear n1 n2 n3 n4 n5
  go_enter Try.func16, Try.ntmps16
  go_wp2_with fail
  have B0 := Lib.hid ((Below.refl w.heap.size w).alloc (Nat.le_refl _) (.cells (rowOf [⟨5, 7⟩, ⟨1, 2⟩, ⟨3, 3⟩, ⟨9, 8⟩]).toArray 64))
  refine (classes_Norm.calls k1 _ 4 [⟨5, 7⟩, ⟨1, 2⟩, ⟨3, 3⟩, ⟨9, 8⟩] false _ _ (lit_C w [⟨5, 7⟩, ⟨1, 2⟩, ⟨3, 3⟩, ⟨9, 8⟩] _ rfl (by simp)) (Nat.le_refl _) N1.out).mono ?_
  rintro e w1 ⟨v1, rfl, hR, hB⟩
  obtain ⟨a, ca, rfl⟩ := Kd.R_slice hR
  have La := Lib.hid (rR hR).2.1
  have Ca := Lib.hid (rR hR).2.2
  have B1 := Lib.hid (B0.out.trans (hB.mono B0.out.size))
  clear hR hB B0
  go_wp2_with fail
  refine (classes_Named.calls ⟨#[98, 108, 97, 110, 107]⟩ [⟨9, 9⟩, ⟨32, 32⟩] true _ (by simp [classes_Named.f, Cls.named])).mono ?_
  rintro e w2 ⟨v2, rfl, hR, hB⟩
  obtain ⟨b, cb, rfl⟩ := Kd.R_slice hR
  have Lb := Lib.hid (rR hR).2.1
  have Cb := Lib.hid (rR hR).2.2
  have Ca2 := Lib.hid (Kd.C_below Ca.out hB)
  have B2 := Lib.hid (B1.out.trans (hB.mono B1.out.size))
  clear hR hB B1 Ca
  go_wp2_with fail
  refine (classes_Named.calls ⟨#[66, 108, 97, 110, 107]⟩ [] false _ (by simp [classes_Named.f, Cls.named])).mono ?_
  rintro e w3 ⟨v3, rfl, hR, hB⟩
  have Ca3 := Lib.hid (Kd.C_below Ca2.out hB)
  have Cb3 := Lib.hid (Kd.C_below Cb.out hB)
  have B3 := Lib.hid (B2.out.trans (hB.mono B2.out.size))
  obtain ⟨nn, cnn, rfl⟩ := Kd.R_slice hR
  clear hR hB B2 Ca2 Cb
  go_wp2_with fail
  have B4 := Lib.hid (B3.out.alloc B3.out.size (.cells (rowOf [⟨64, 66⟩]).toArray 64))
  refine (classes_Fold.calls _ 1 [⟨64, 66⟩] _ _ (lit_C w3 [⟨64, 66⟩] _ rfl (by simp)) (Nat.le_refl _) (by simp only [classes_Fold.f]; rw [if_pos (by simp), if_pos (by decide), ex_fold])).mono ?_
  rintro e w4 ⟨v4, rfl, hR, hB⟩
  obtain ⟨c, cc, rfl⟩ := Kd.R_slice hR
  have Lc := Lib.hid (rR hR).2.1
  have Cc := Lib.hid (rR hR).2.2
  have Ca4 := Lib.hid (Kd.C_below (Kd.C_alloc Ca3.out _) hB)
  have Cb4 := Lib.hid (Kd.C_below (Kd.C_alloc Cb3.out _) hB)
  have B5 := Lib.hid (B4.out.trans (hB.mono B4.out.size))
  clear hR hB B4 Ca3 Cb3 B3
  go_wp2_with fail
  refine (dredgeref06_Alike.calls k2 _ ca [⟨1, 3⟩, ⟨5, 7⟩] _ 2 [⟨1, 3⟩, ⟨5, 7⟩] _ _ (Kd.C_alloc Ca4.out _) La.out (lit_C w4 [⟨1, 3⟩, ⟨5, 7⟩] _ rfl (by simp)) (Nat.le_refl _) N2.out).mono ?_
  rintro e x0 ⟨rfl, hD⟩
  have D0 := Lib.hid (B_drawn (B5.out.alloc B5.out.size _) hD)
  have Cax0 := Lib.hid (C_drawn (Kd.C_alloc Ca4.out _) hD)
  have Cbx0 := Lib.hid (C_drawn (Kd.C_alloc Cb4.out _) hD)
  have Ccx0 := Lib.hid (C_drawn (Kd.C_alloc Cc.out _) hD)
  clear hD B5 Ca4 Cb4 Cc
  go_wp2_with fail
  refine (dredgeref06_Alike.calls k3 _ cb [⟨9, 9⟩, ⟨32, 32⟩] _ 2 [⟨9, 9⟩, ⟨32, 32⟩] _ _ (Kd.C_alloc Cbx0.out _) Lb.out (lit_C x0 [⟨9, 9⟩, ⟨32, 32⟩] _ rfl (by simp)) (Nat.le_refl _) N3.out).mono ?_
  rintro e x1 ⟨rfl, hD⟩
  have D1 := Lib.hid (B_drawn (D0.out.alloc D0.out.size _) hD)
  have Cax1 := Lib.hid (C_drawn (Kd.C_alloc Cax0.out _) hD)
  have Cbx1 := Lib.hid (C_drawn (Kd.C_alloc Cbx0.out _) hD)
  have Ccx1 := Lib.hid (C_drawn (Kd.C_alloc Ccx0.out _) hD)
  clear hD D0 Cax0 Cbx0 Ccx0
  go_wp2_with fail
  refine (dredgeref06_Alike.calls k4 _ cc [⟨64, 66⟩, ⟨97, 98⟩] _ 2 [⟨64, 66⟩, ⟨97, 98⟩] _ _ (Kd.C_alloc Ccx1.out _) Lc.out (lit_C x1 [⟨64, 66⟩, ⟨97, 98⟩] _ rfl (by simp)) (Nat.le_refl _) N4.out).mono ?_
  rintro e x2 ⟨rfl, hD⟩
  have D2 := Lib.hid (B_drawn (D1.out.alloc D1.out.size _) hD)
  have Cax2 := Lib.hid (C_drawn (Kd.C_alloc Cax1.out _) hD)
  have Cbx2 := Lib.hid (C_drawn (Kd.C_alloc Cbx1.out _) hD)
  have Ccx2 := Lib.hid (C_drawn (Kd.C_alloc Ccx1.out _) hD)
  clear hD D1 Cax1 Cbx1 Ccx1
  go_wp2_with fail
  refine (classes_Top.calls false 255 _ rfl).mono ?_
  rintro e x3 ⟨rfl, hD⟩
  have D3 := Lib.hid (B_drawn D2.out hD)
  have Ca5 := Lib.hid (C_drawn Cax2.out hD)
  clear hD
  go_wp2_with fail
  refine (classes_Top.calls true 1114111 _ rfl).mono ?_
  rintro e x4 ⟨rfl, hD⟩
  have D4 := Lib.hid (B_drawn D3.out hD)
  have Ca6 := Lib.hid (C_drawn Ca5.out hD)
  clear hD
  go_wp2_with fail
  refine (classes_Count.calls k5 _ ca [⟨1, 3⟩, ⟨5, 7⟩] _ _ Ca6.out La.out N5.out).mono ?_
  rintro e x5 ⟨rfl, hB⟩
  have Ca7 := Lib.hid (Kd.C_below Ca6.out hB)
  have D5 := Lib.hid (D4.out.trans (hB.mono D4.out.size))
  clear hB
  go_wp2_with fail
  refine (classes_Has.calls _ ca [⟨1, 3⟩, ⟨5, 7⟩] 6 true _ Ca7.out La.out rfl).mono ?_
  rintro e x6 ⟨rfl, hB⟩
  have Ca8 := Lib.hid (Kd.C_below Ca7.out hB)
  have D6 := Lib.hid (D5.out.trans (hB.mono D5.out.size))
  clear hB
  go_wp2_with fail
  refine (classes_Has.calls _ ca [⟨1, 3⟩, ⟨5, 7⟩] 4 false _ Ca8.out La.out rfl).mono ?_
  rintro e x7 ⟨rfl, hB⟩
  have D7 := Lib.hid (D6.out.trans (hB.mono D6.out.size))
  clear hB
  go_wp2
  go_ret
  exact ⟨rfl, D7.out⟩
end Go.Proofs.Ytamhkdlcoghdbaa.PCls
