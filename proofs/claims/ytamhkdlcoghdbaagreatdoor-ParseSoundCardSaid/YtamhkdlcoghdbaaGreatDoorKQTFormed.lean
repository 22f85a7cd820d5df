/- Out of TFormed (wip/tools/prune2.py): the declarations alone that the texts of the trees name. -/
import Derived.Test.YtamhkdlcoghdbaaGreatDoorKMQZGTwo
namespace Go.Proofs.YtamhkdlcoghdbaaGreatDoor.PCls
open Go.RowKit Go.Proofs.YtamhkdlcoghdbaaGreatDoorW.PrintWords Go.Proofs.YtamhkdlcoghdbaaGreatDoorW.PrintLast Go.Proofs.YtamhkdlcoghdbaaGreatDoorW.PrintMore
set_option linter.unusedVariables false
set_option linter.unusedSimpArgs false
theorem below_drawn {B : Nat} {w0 w w' : World} (h : Below B w0 w) (hd : Drawn0 w w') : Below B w0 w' := by
 obtain ⟨m, rfl⟩ := hd.out
 exact wN h m
theorem C_below2 {w w' : World} {a : Option Addr} {l : List S64} (h : Kd.C k64 w a l.length l) (hb : Below w.heap.size w w') : Kd.C k64 w' a l.length l := Kd.C_below h hb
theorem with_self {P : Program} {md : Region.Mode} {ops : Array Oper} {Q : Exit → Act → World → Prop} {S : World → Prop} {ds : List Nat} {n : Nat} {l : Array Bool} {a : Act} {w : World} (h : Aside0 (rtab md ops = rtab md ops) → wpAnyLast P md ops Q S ds n l a w) : wpAnyLast P md ops Q S ds n l a w := h ⟨rfl⟩
/-- what formed comes to, by what it has reckoned of the node's fields -/
def formedB (k : Int) (lk : Nat) (R N O S U D : Bool) : Bool :=
 if k = 1 ∨ k = 3 ∨ k = 4 then decide (lk = 0) && !R && !N && !O
 else if k = 2 then S && (decide (lk = 0) && !N && !O)
 else if k = 5 ∨ k = 6 then decide (2 ≤ lk) && !R && !N && !O
 else if k = 7 then decide (lk = 1) && !R && !O
 else if k = 8 then D && decide (lk = 0) && !R && !O
 else if k = 9 then U && decide (lk = 1) && !R && !N
 else false
set_option maxHeartbeats 8000000 in
set_option maxRecDepth 100000 in
theorem formed_walk (k m lo hi : Int) (r : List S64) (ar ak : Option Addr) (cr lk ck : Nat) (chars fold : Bool) (w : World) (N R O S U D rOk fOk : Bool) (F : List S64) (k1 k2 : Nat)
  (hN : N = (m != 0)) (hR : R = decide (0 < r.length)) (hO : O = ((lo != 0) || (hi != 0))) (hD : D = (decide (1 ≤ m) && decide (m ≤ 9))) (hU : U = bounds lo hi) (hS : S = (rOk && (!fold || fOk)))
  (f1 : classes_Right.f k1 r chars = some rOk) (f2 : classes_Fold.f r = some F) (f3 : api_Range_77.f k2 F r = some fOk) (hr : Kd.C k64 w ar r.length r) (hcr : r.length ≤ cr) :
  Calls Tryz.prog 70 #[.agg #[.int .i64 k, .int .i64 m, .int .i64 lo, .int .i64 hi, .slice ar r.length cr, .slice ak lk ck], .agg #[.bool chars, .bool fold]] w fun e w' => e = .returned (.bool (formedB k lk R N O S U D)) ∧ Below w.heap.size w w' := by
 have HN := Lib.hid hN
 have HR := Lib.hid hR
 have HO := Lib.hid hO
 have HD := Lib.hid hD
 have HU := Lib.hid hU
 have HS := Lib.hid hS
 have F1 := Lib.hid f1
 have F2 := Lib.hid f2
 have F3 := Lib.hid f3
 have HRC := Lib.hid hr
 have HCR := Lib.hid hcr
 clear hN hR hO hD hU hS f1 f2 f3 hr hcr
 go_enter Tryz.func70, Tryz.ntmps70
 go_upto_region 1 with (fail)
 go_cut [5, 6, 7, 8] (fun v5 v6 v7 v8 wc => v5 = .int .i64 lk ∧ v6 = .bool R ∧ v7 = .bool N ∧ v8 = .bool O ∧ Aside0 (Below (w.heap.size + 2) ((w.alloc (.cells #[.int .i64 k, .int .i64 m, .int .i64 lo, .int .i64 hi, .slice ar r.length cr, .slice ak lk ck] 43)).alloc (.cells #[.bool chars, .bool fold] 23)) wc))
 case first =>
  by_cases h1 : lo = 0
  ·subst h1
   go_quiet (fail)
   go_wp2
   go_meet
   case rel => exact ⟨rfl, by rw [HR.out], by rw [HN.out], by rw [HO.out]; simp, ⟨by have h := (Below.refl (w.heap.size + 2) ((w.alloc (.cells #[.int .i64 k, .int .i64 m, .int .i64 0, .int .i64 hi, .slice ar r.length cr, .slice ak lk ck] 43)).alloc (.cells #[.bool chars, .bool fold] 23))); exact ⟨h.os, h.tape, h.output, h.size, h.block⟩⟩⟩
  ·have h2 : (lo == 0) = false := beq_eq_false_iff_ne.2 h1
   go_quiet (fail)
   go_wp2
   go_meet
   case rel => exact ⟨rfl, by rw [HR.out], by rw [HN.out], by rw [HO.out]; simp [h1], ⟨by have h := (Below.refl (w.heap.size + 2) ((w.alloc (.cells #[.int .i64 k, .int .i64 m, .int .i64 lo, .int .i64 hi, .slice ar r.length cr, .slice ak lk ck] 43)).alloc (.cells #[.bool chars, .bool fold] 23))); exact ⟨h.os, h.tape, h.output, h.size, h.block⟩⟩⟩
 case rest =>
  obtain ⟨rfl, rfl, rfl, rfl, HW⟩ := hcut
  obtain ⟨wa, rfl⟩ : ∃ x, x = wc := ⟨_, rfl⟩
  have hn : wa.heap[w.heap.size]? = some (.cells #[.int .i64 k, .int .i64 m, .int .i64 lo, .int .i64 hi, .slice ar r.length cr, .slice ak lk ck] 43 (0, 0)) := (HW.out.block _ (by omega)).trans ((Below.heap_alloc _ _ _ (by simp)).trans (World.alloc_heap_new w _))
  have hm : wa.heap[w.heap.size + 1]? = some (.cells #[.bool chars, .bool fold] 23 (0, 0)) := (HW.out.block _ (by omega)).trans (by have := World.alloc_heap_new (w.alloc (.cells #[.int .i64 k, .int .i64 m, .int .i64 lo, .int .i64 hi, .slice ar r.length cr, .slice ak lk ck] 43)) (.cells #[.bool chars, .bool fold] 23); rwa [World.size_alloc] at this)
  have HBl := Lib.hid (show Below w.heap.size w wa from (((Below.refl _ w).alloc (Nat.le_refl _) _).alloc (by simp) _).trans (HW.out.mono (by omega)))
  have c0 := cell_heap (i := 0) hn rfl
  have HN0 := Lib.hid hn
  have HM0 := Lib.hid hm
  clear hn hm
  by_cases g1 : k = 1
  ·subst g1
   go_wp2
   all_goals go_ret
   all_goals exact ⟨by first | rfl | (simp [formedB, *]; done) | (simp [formedB, *]; intros; omega), HBl.out⟩
  by_cases g3 : k = 3
  ·subst g3
   go_wp2
   all_goals go_ret
   all_goals exact ⟨by first | rfl | (simp [formedB, *]; done) | (simp [formedB, *]; intros; omega), HBl.out⟩
  by_cases g4 : k = 4
  ·subst g4
   go_wp2
   all_goals go_ret
   all_goals exact ⟨by first | rfl | (simp [formedB, *]; done) | (simp [formedB, *]; intros; omega), HBl.out⟩
  by_cases g2 : k = 2
  ·subst g2
   go_upto_region 8 with (fail)
   go_cut [67] (fun v67 wc => v67 = .bool (!S) ∧ Aside0 (Below wa.heap.size wa wc))
   case first =>
    have hsz := Lib.hid (show w.heap.size + 2 ≤ wa.heap.size from by have := HW.out.size; simpa using this)
    have HC := Lib.hid (C_below2 HRC.out (show Below w.heap.size w wa from HBl.out))
    cases rOk with
    | false =>
     have HBa := Lib.hid (show Below wa.heap.size wa wa.drew from (Below.refl _ wa).drew)
     refine start_ (n := 19) (S := fun w' => w'.cell? ⟨w.heap.size, 4, none⟩ = some (.slice ar r.length cr) ∧ w'.cell? ⟨w.heap.size + 1, 0, none⟩ = some (.bool chars) ∧ w'.cell? ⟨w.heap.size + 1, 1, none⟩ = some (.bool fold)) (ds := []) #[Z,Z,Z,Z,Z,Z,Z,Z,Z,Z,Z,Z,Z,Z,Z,Z,Z,Z,Z] (by kernel_rfl) rfl rfl ⟨cell_heap (i := 4) ((HBa.out.block _ (by have := hsz.out; omega)).trans HN0.out) rfl, cell_heap (i := 0) ((HBa.out.block _ (by have := hsz.out; omega)).trans HM0.out) rfl, cell_heap (i := 1) ((HBa.out.block _ (by have := hsz.out; omega)).trans HM0.out) rfl⟩ (fun hHeld => ?_)
     refine with_self (fun HT_ => ?_)
     generalize wa.drew = w1 at HBa hHeld ⊢
     refine pure_ (i := 0) (N := some 49) (v := ?_) (a' := ?_) #[I,Z,Z,Z,Z,Z,Z,Z,Z,Z,Z,Z,Z,Z,Z,Z,Z,Z,Z] rfl rfl (any_of HT_.out (by kernel_rfl)) (fun _ _ _ h => h) (Or.inl ⟨by rfl, ?_⟩) ?_ ?_
     rotate_left
     ·intro w'
      go_simp
      with_reducible rfl
     rotate_left
     ·simp only [Act.put, pu_, pz_, ps_, i64_w, i32_w]
      rfl
     refine take_ (i := 1) (N := some 50) (v := ?_) (a' := ?_) #[I,I,Z,Z,Z,Z,Z,Z,Z,Z,Z,Z,Z,Z,Z,Z,Z,Z,Z] rfl rfl (take_of HT_.out (by kernel_rfl)) (fun _ _ _ h => h) (Or.inl ⟨by rfl, ?_⟩) hHeld ?_ ?_
     rotate_left
     ·rintro w' ⟨s0, s1, s2⟩
      go_simp
      with_reducible rfl
     rotate_left
     ·simp only [Act.put, pu_, pz_, ps_, i64_w, i32_w]
      rfl
     refine pure_ (i := 2) (N := some 51) (v := ?_) (a' := ?_) #[I,I,I,Z,Z,Z,Z,Z,Z,Z,Z,Z,Z,Z,Z,Z,Z,Z,Z] rfl rfl (any_of HT_.out (by kernel_rfl)) (fun _ _ _ h => h) (Or.inl ⟨by rfl, ?_⟩) ?_ ?_
     rotate_left
     ·intro w'
      go_simp
      with_reducible rfl
     rotate_left
     ·simp only [Act.put, pu_, pz_, ps_, i64_w, i32_w]
      rfl
     refine take_ (i := 3) (N := some 52) (v := ?_) (a' := ?_) #[I,I,I,I,Z,Z,Z,Z,Z,Z,Z,Z,Z,Z,Z,Z,Z,Z,Z] rfl rfl (take_of HT_.out (by kernel_rfl)) (fun _ _ _ h => h) (Or.inl ⟨by rfl, ?_⟩) hHeld ?_ ?_
     rotate_left
     ·rintro w' ⟨s0, s1, s2⟩
      go_simp
      with_reducible rfl
     rotate_left
     ·simp only [Act.put, pu_, pz_, ps_, i64_w, i32_w]
      rfl
     refine one_ (i := 4) (N := some 53) #[I,I,I,I,I,Z,Z,Z,Z,Z,Z,Z,Z,Z,Z,Z,Z,Z,Z] rfl rfl (one_of HT_.out (by kernel_rfl)) (by decide) (fun K hK => ?_)
     refine goes_ Tryz.func123 (by kernel_rfl) rfl #[.slice ar r.length cr, .bool chars] (by rfl) rfl rfl (by (try simp only [List.map_toArray, List.map_cons, List.map_nil]); first | done | rfl) ?_
     refine (classes_Right.calls k1 ar cr r chars _ w1 (C_below2 HC.out HBa.out) HCR.out F1.out).mono ?_
     rintro e w2 ⟨rfl, hB⟩
     have HB2 := Lib.hid (HBa.out.trans (hB.mono HBa.out.size))
     clear hB
     refine ⟨_, rfl, ?_⟩
     clear hHeld
     refine hK.out _ _ ⟨cell_heap (i := 4) ((HB2.out.block _ (by have := hsz.out; omega)).trans HN0.out) rfl, cell_heap (i := 0) ((HB2.out.block _ (by have := hsz.out; omega)).trans HM0.out) rfl, cell_heap (i := 1) ((HB2.out.block _ (by have := hsz.out; omega)).trans HM0.out) rfl⟩ (fun hHeld => ?_)
     clear hK K
     refine norm_ (a' := ?_) ?_ ?_
     rotate_left
     ·show Act.put _ (some 53) _ = _
      simp only [Act.put, pu_, pz_, ps_, i64_w, i32_w]
      rfl
     refine pure_ (i := 5) (N := some 54) (v := ?_) (a' := ?_) #[I,I,I,I,I,I,Z,Z,Z,Z,Z,Z,Z,Z,Z,Z,Z,Z,Z] rfl rfl (any_of HT_.out (by kernel_rfl)) (fun _ _ _ h => h) (Or.inl ⟨by rfl, ?_⟩) ?_ ?_
     rotate_left
     ·intro w'
      go_simp
      with_reducible rfl
     rotate_left
     ·simp only [Act.put, pu_, pz_, ps_, i64_w, i32_w]
      rfl
     refine pure_ (i := 6) (N := some 55) (v := ?_) (a' := ?_) #[I,I,I,I,I,I,I,Z,Z,Z,Z,Z,Z,Z,Z,Z,Z,Z,Z] rfl rfl (any_of HT_.out (by kernel_rfl)) (fun _ _ _ h => h) (Or.inl ⟨by rfl, ?_⟩) ?_ ?_
     rotate_left
     ·intro w'
      go_simp
      with_reducible rfl
     rotate_left
     ·simp only [Act.put, pu_, pz_, ps_, i64_w, i32_w]
      rfl
     refine pure_ (i := 7) (N := some 56) (v := undef) (a' := ?_) #[I,I,I,I,I,I,I,I,Z,Z,Z,Z,Z,Z,Z,Z,Z,Z,Z] rfl rfl (any_of HT_.out (by kernel_rfl)) (fun _ _ _ h => h) (Or.inr ⟨by rfl, rfl⟩) ?_ ?_
     rotate_left
     ·simp only [Act.put, pu_, pz_, ps_, i64_w, i32_w]
      rfl
     refine pure_ (i := 8) (N := some 57) (v := undef) (a' := ?_) #[I,I,I,I,I,I,I,I,I,Z,Z,Z,Z,Z,Z,Z,Z,Z,Z] rfl rfl (any_of HT_.out (by kernel_rfl)) (fun _ _ _ h => h) (Or.inr ⟨by rfl, rfl⟩) ?_ ?_
     rotate_left
     ·simp only [Act.put, pu_, pz_, ps_, i64_w, i32_w]
      rfl
     refine pure_ (i := 9) (N := some 58) (v := undef) (a' := ?_) #[I,I,I,I,I,I,I,I,I,I,Z,Z,Z,Z,Z,Z,Z,Z,Z] rfl rfl (any_of HT_.out (by kernel_rfl)) (fun _ _ _ h => h) (Or.inr ⟨by rfl, rfl⟩) ?_ ?_
     rotate_left
     ·simp only [Act.put, pu_, pz_, ps_, i64_w, i32_w]
      rfl
     refine pure_ (i := 10) (N := some 59) (v := undef) (a' := ?_) #[I,I,I,I,I,I,I,I,I,I,I,Z,Z,Z,Z,Z,Z,Z,Z] rfl rfl (any_of HT_.out (by kernel_rfl)) (fun _ _ _ h => h) (Or.inr ⟨by rfl, rfl⟩) ?_ ?_
     rotate_left
     ·simp only [Act.put, pu_, pz_, ps_, i64_w, i32_w]
      rfl
     refine pure_ (i := 11) (N := some 60) (v := undef) (a' := ?_) #[I,I,I,I,I,I,I,I,I,I,I,I,Z,Z,Z,Z,Z,Z,Z] rfl rfl (any_of HT_.out (by kernel_rfl)) (fun _ _ _ h => h) (Or.inr ⟨by rfl, rfl⟩) ?_ ?_
     rotate_left
     ·simp only [Act.put, pu_, pz_, ps_, i64_w, i32_w]
      rfl
     refine pure_ (i := 13) (N := some 62) (v := undef) (a' := ?_) #[I,I,I,I,I,I,I,I,I,I,I,I,Z,I,Z,Z,Z,Z,Z] rfl rfl (any_of HT_.out (by kernel_rfl)) (fun _ _ _ h => h) (Or.inr ⟨by rfl, rfl⟩) ?_ ?_
     rotate_left
     ·simp only [Act.put, pu_, pz_, ps_, i64_w, i32_w]
      rfl
     refine pure_ (i := 14) (N := some 63) (v := undef) (a' := ?_) #[I,I,I,I,I,I,I,I,I,I,I,I,Z,I,I,Z,Z,Z,Z] rfl rfl (any_of HT_.out (by kernel_rfl)) (fun _ _ _ h => h) (Or.inr ⟨by rfl, rfl⟩) ?_ ?_
     rotate_left
     ·simp only [Act.put, pu_, pz_, ps_, i64_w, i32_w]
      rfl
     refine pure_ (i := 12) (N := some 61) (v := undef) (a' := ?_) #[I,I,I,I,I,I,I,I,I,I,I,I,I,I,I,Z,Z,Z,Z] rfl rfl (any_of HT_.out (by kernel_rfl)) (fun _ _ _ h => h) (Or.inr ⟨by rfl, rfl⟩) ?_ ?_
     rotate_left
     ·simp only [Act.put, pu_, pz_, ps_, i64_w, i32_w]
      rfl
     refine pure_ (i := 15) (N := some 64) (v := undef) (a' := ?_) #[I,I,I,I,I,I,I,I,I,I,I,I,I,I,I,I,Z,Z,Z] rfl rfl (any_of HT_.out (by kernel_rfl)) (fun _ _ _ h => h) (Or.inr ⟨by rfl, rfl⟩) ?_ ?_
     rotate_left
     ·simp only [Act.put, pu_, pz_, ps_, i64_w, i32_w]
      rfl
     refine pure_ (i := 16) (N := some 65) (v := undef) (a' := ?_) #[I,I,I,I,I,I,I,I,I,I,I,I,I,I,I,I,I,Z,Z] rfl rfl (any_of HT_.out (by kernel_rfl)) (fun _ _ _ h => h) (Or.inr ⟨by rfl, rfl⟩) ?_ ?_
     rotate_left
     ·simp only [Act.put, pu_, pz_, ps_, i64_w, i32_w]
      rfl
     refine pure_ (i := 17) (N := some 66) (v := undef) (a' := ?_) #[I,I,I,I,I,I,I,I,I,I,I,I,I,I,I,I,I,I,Z] rfl rfl (any_of HT_.out (by kernel_rfl)) (fun _ _ _ h => h) (Or.inr ⟨by rfl, rfl⟩) ?_ ?_
     rotate_left
     ·simp only [Act.put, pu_, pz_, ps_, i64_w, i32_w]
      rfl
     refine pure_ (i := 18) (N := some 67) (v := ?_) (a' := ?_) #[I,I,I,I,I,I,I,I,I,I,I,I,I,I,I,I,I,I,I] rfl rfl (any_of HT_.out (by kernel_rfl)) (fun _ _ _ h => h) (Or.inl ⟨by rfl, ?_⟩) ?_ ?_
     rotate_left
     ·intro w'
      go_simp
      with_reducible rfl
     rotate_left
     ·simp only [Act.put, pu_, pz_, ps_, i64_w, i32_w]
      rfl
     refine done_ (done_of HT_.out (by kernel_rfl)) ?_
     clear HT_ hHeld
     go_wp2
     go_meet
     case rel => exact ⟨by rw [HS.out]; first | rfl | (cases fOk <;> rfl), ⟨HB2.out⟩⟩
    | true =>
     cases fold with
     | false =>
      have HBa := Lib.hid (show Below wa.heap.size wa wa.drew from (Below.refl _ wa).drew)
      refine start_ (n := 19) (S := fun w' => w'.cell? ⟨w.heap.size, 4, none⟩ = some (.slice ar r.length cr) ∧ w'.cell? ⟨w.heap.size + 1, 0, none⟩ = some (.bool chars) ∧ w'.cell? ⟨w.heap.size + 1, 1, none⟩ = some (.bool false)) (ds := []) #[Z,Z,Z,Z,Z,Z,Z,Z,Z,Z,Z,Z,Z,Z,Z,Z,Z,Z,Z] (by kernel_rfl) rfl rfl ⟨cell_heap (i := 4) ((HBa.out.block _ (by have := hsz.out; omega)).trans HN0.out) rfl, cell_heap (i := 0) ((HBa.out.block _ (by have := hsz.out; omega)).trans HM0.out) rfl, cell_heap (i := 1) ((HBa.out.block _ (by have := hsz.out; omega)).trans HM0.out) rfl⟩ (fun hHeld => ?_)
      refine with_self (fun HT_ => ?_)
      generalize wa.drew = w1 at HBa hHeld ⊢
      refine pure_ (i := 0) (N := some 49) (v := ?_) (a' := ?_) #[I,Z,Z,Z,Z,Z,Z,Z,Z,Z,Z,Z,Z,Z,Z,Z,Z,Z,Z] rfl rfl (any_of HT_.out (by kernel_rfl)) (fun _ _ _ h => h) (Or.inl ⟨by rfl, ?_⟩) ?_ ?_
      rotate_left
      ·intro w'
       go_simp
       with_reducible rfl
      rotate_left
      ·simp only [Act.put, pu_, pz_, ps_, i64_w, i32_w]
       rfl
      refine take_ (i := 1) (N := some 50) (v := ?_) (a' := ?_) #[I,I,Z,Z,Z,Z,Z,Z,Z,Z,Z,Z,Z,Z,Z,Z,Z,Z,Z] rfl rfl (take_of HT_.out (by kernel_rfl)) (fun _ _ _ h => h) (Or.inl ⟨by rfl, ?_⟩) hHeld ?_ ?_
      rotate_left
      ·rintro w' ⟨s0, s1, s2⟩
       go_simp
       with_reducible rfl
      rotate_left
      ·simp only [Act.put, pu_, pz_, ps_, i64_w, i32_w]
       rfl
      refine pure_ (i := 2) (N := some 51) (v := ?_) (a' := ?_) #[I,I,I,Z,Z,Z,Z,Z,Z,Z,Z,Z,Z,Z,Z,Z,Z,Z,Z] rfl rfl (any_of HT_.out (by kernel_rfl)) (fun _ _ _ h => h) (Or.inl ⟨by rfl, ?_⟩) ?_ ?_
      rotate_left
      ·intro w'
       go_simp
       with_reducible rfl
      rotate_left
      ·simp only [Act.put, pu_, pz_, ps_, i64_w, i32_w]
       rfl
      refine take_ (i := 3) (N := some 52) (v := ?_) (a' := ?_) #[I,I,I,I,Z,Z,Z,Z,Z,Z,Z,Z,Z,Z,Z,Z,Z,Z,Z] rfl rfl (take_of HT_.out (by kernel_rfl)) (fun _ _ _ h => h) (Or.inl ⟨by rfl, ?_⟩) hHeld ?_ ?_
      rotate_left
      ·rintro w' ⟨s0, s1, s2⟩
       go_simp
       with_reducible rfl
      rotate_left
      ·simp only [Act.put, pu_, pz_, ps_, i64_w, i32_w]
       rfl
      refine one_ (i := 4) (N := some 53) #[I,I,I,I,I,Z,Z,Z,Z,Z,Z,Z,Z,Z,Z,Z,Z,Z,Z] rfl rfl (one_of HT_.out (by kernel_rfl)) (by decide) (fun K hK => ?_)
      refine goes_ Tryz.func123 (by kernel_rfl) rfl #[.slice ar r.length cr, .bool chars] (by rfl) rfl rfl (by (try simp only [List.map_toArray, List.map_cons, List.map_nil]); first | done | rfl) ?_
      refine (classes_Right.calls k1 ar cr r chars _ w1 (C_below2 HC.out HBa.out) HCR.out F1.out).mono ?_
      rintro e w2 ⟨rfl, hB⟩
      have HB2 := Lib.hid (HBa.out.trans (hB.mono HBa.out.size))
      clear hB
      refine ⟨_, rfl, ?_⟩
      clear hHeld
      refine hK.out _ _ ⟨cell_heap (i := 4) ((HB2.out.block _ (by have := hsz.out; omega)).trans HN0.out) rfl, cell_heap (i := 0) ((HB2.out.block _ (by have := hsz.out; omega)).trans HM0.out) rfl, cell_heap (i := 1) ((HB2.out.block _ (by have := hsz.out; omega)).trans HM0.out) rfl⟩ (fun hHeld => ?_)
      clear hK K
      refine norm_ (a' := ?_) ?_ ?_
      rotate_left
      ·show Act.put _ (some 53) _ = _
       simp only [Act.put, pu_, pz_, ps_, i64_w, i32_w]
       rfl
      refine pure_ (i := 5) (N := some 54) (v := ?_) (a' := ?_) #[I,I,I,I,I,I,Z,Z,Z,Z,Z,Z,Z,Z,Z,Z,Z,Z,Z] rfl rfl (any_of HT_.out (by kernel_rfl)) (fun _ _ _ h => h) (Or.inl ⟨by rfl, ?_⟩) ?_ ?_
      rotate_left
      ·intro w'
       go_simp
       with_reducible rfl
      rotate_left
      ·simp only [Act.put, pu_, pz_, ps_, i64_w, i32_w]
       rfl
      refine pure_ (i := 6) (N := some 55) (v := ?_) (a' := ?_) #[I,I,I,I,I,I,I,Z,Z,Z,Z,Z,Z,Z,Z,Z,Z,Z,Z] rfl rfl (any_of HT_.out (by kernel_rfl)) (fun _ _ _ h => h) (Or.inl ⟨by rfl, ?_⟩) ?_ ?_
      rotate_left
      ·intro w'
       go_simp
       with_reducible rfl
      rotate_left
      ·simp only [Act.put, pu_, pz_, ps_, i64_w, i32_w]
       rfl
      refine pure_ (i := 7) (N := some 56) (v := ?_) (a' := ?_) #[I,I,I,I,I,I,I,I,Z,Z,Z,Z,Z,Z,Z,Z,Z,Z,Z] rfl rfl (any_of HT_.out (by kernel_rfl)) (fun _ _ _ h => h) (Or.inl ⟨by rfl, ?_⟩) ?_ ?_
      rotate_left
      ·intro w'
       go_simp
       with_reducible rfl
      rotate_left
      ·simp only [Act.put, pu_, pz_, ps_, i64_w, i32_w]
       rfl
      refine take_ (i := 8) (N := some 57) (v := ?_) (a' := ?_) #[I,I,I,I,I,I,I,I,I,Z,Z,Z,Z,Z,Z,Z,Z,Z,Z] rfl rfl (take_of HT_.out (by kernel_rfl)) (fun _ _ _ h => h) (Or.inl ⟨by rfl, ?_⟩) hHeld ?_ ?_
      rotate_left
      ·rintro w' ⟨s0, s1, s2⟩
       go_simp
       with_reducible rfl
      rotate_left
      ·simp only [Act.put, pu_, pz_, ps_, i64_w, i32_w]
       rfl
      refine pure_ (i := 9) (N := some 58) (v := ?_) (a' := ?_) #[I,I,I,I,I,I,I,I,I,I,Z,Z,Z,Z,Z,Z,Z,Z,Z] rfl rfl (any_of HT_.out (by kernel_rfl)) (fun _ _ _ h => h) (Or.inl ⟨by rfl, ?_⟩) ?_ ?_
      rotate_left
      ·intro w'
       go_simp
       with_reducible rfl
      rotate_left
      ·simp only [Act.put, pu_, pz_, ps_, i64_w, i32_w]
       rfl
      refine pure_ (i := 10) (N := some 59) (v := undef) (a' := ?_) #[I,I,I,I,I,I,I,I,I,I,I,Z,Z,Z,Z,Z,Z,Z,Z] rfl rfl (any_of HT_.out (by kernel_rfl)) (fun _ _ _ h => h) (Or.inr ⟨by rfl, rfl⟩) ?_ ?_
      rotate_left
      ·simp only [Act.put, pu_, pz_, ps_, i64_w, i32_w]
       rfl
      refine pure_ (i := 11) (N := some 60) (v := undef) (a' := ?_) #[I,I,I,I,I,I,I,I,I,I,I,I,Z,Z,Z,Z,Z,Z,Z] rfl rfl (any_of HT_.out (by kernel_rfl)) (fun _ _ _ h => h) (Or.inr ⟨by rfl, rfl⟩) ?_ ?_
      rotate_left
      ·simp only [Act.put, pu_, pz_, ps_, i64_w, i32_w]
       rfl
      refine pure_ (i := 13) (N := some 62) (v := undef) (a' := ?_) #[I,I,I,I,I,I,I,I,I,I,I,I,Z,I,Z,Z,Z,Z,Z] rfl rfl (any_of HT_.out (by kernel_rfl)) (fun _ _ _ h => h) (Or.inr ⟨by rfl, rfl⟩) ?_ ?_
      rotate_left
      ·simp only [Act.put, pu_, pz_, ps_, i64_w, i32_w]
       rfl
      refine pure_ (i := 14) (N := some 63) (v := undef) (a' := ?_) #[I,I,I,I,I,I,I,I,I,I,I,I,Z,I,I,Z,Z,Z,Z] rfl rfl (any_of HT_.out (by kernel_rfl)) (fun _ _ _ h => h) (Or.inr ⟨by rfl, rfl⟩) ?_ ?_
      rotate_left
      ·simp only [Act.put, pu_, pz_, ps_, i64_w, i32_w]
       rfl
      refine pure_ (i := 12) (N := some 61) (v := undef) (a' := ?_) #[I,I,I,I,I,I,I,I,I,I,I,I,I,I,I,Z,Z,Z,Z] rfl rfl (any_of HT_.out (by kernel_rfl)) (fun _ _ _ h => h) (Or.inr ⟨by rfl, rfl⟩) ?_ ?_
      rotate_left
      ·simp only [Act.put, pu_, pz_, ps_, i64_w, i32_w]
       rfl
      refine pure_ (i := 15) (N := some 64) (v := undef) (a' := ?_) #[I,I,I,I,I,I,I,I,I,I,I,I,I,I,I,I,Z,Z,Z] rfl rfl (any_of HT_.out (by kernel_rfl)) (fun _ _ _ h => h) (Or.inr ⟨by rfl, rfl⟩) ?_ ?_
      rotate_left
      ·simp only [Act.put, pu_, pz_, ps_, i64_w, i32_w]
       rfl
      refine pure_ (i := 16) (N := some 65) (v := undef) (a' := ?_) #[I,I,I,I,I,I,I,I,I,I,I,I,I,I,I,I,I,Z,Z] rfl rfl (any_of HT_.out (by kernel_rfl)) (fun _ _ _ h => h) (Or.inr ⟨by rfl, rfl⟩) ?_ ?_
      rotate_left
      ·simp only [Act.put, pu_, pz_, ps_, i64_w, i32_w]
       rfl
      refine pure_ (i := 17) (N := some 66) (v := ?_) (a' := ?_) #[I,I,I,I,I,I,I,I,I,I,I,I,I,I,I,I,I,I,Z] rfl rfl (any_of HT_.out (by kernel_rfl)) (fun _ _ _ h => h) (Or.inl ⟨by rfl, ?_⟩) ?_ ?_
      rotate_left
      ·intro w'
       go_simp
       with_reducible rfl
      rotate_left
      ·simp only [Act.put, pu_, pz_, ps_, i64_w, i32_w]
       rfl
      refine pure_ (i := 18) (N := some 67) (v := ?_) (a' := ?_) #[I,I,I,I,I,I,I,I,I,I,I,I,I,I,I,I,I,I,I] rfl rfl (any_of HT_.out (by kernel_rfl)) (fun _ _ _ h => h) (Or.inl ⟨by rfl, ?_⟩) ?_ ?_
      rotate_left
      ·intro w'
       go_simp
       with_reducible rfl
      rotate_left
      ·simp only [Act.put, pu_, pz_, ps_, i64_w, i32_w]
       rfl
      refine done_ (done_of HT_.out (by kernel_rfl)) ?_
      clear HT_ hHeld
      go_wp2
      go_meet
      case rel => exact ⟨by rw [HS.out]; first | rfl | (cases fOk <;> rfl), ⟨HB2.out⟩⟩
     | true =>
      have HBa := Lib.hid (show Below wa.heap.size wa wa.drew from (Below.refl _ wa).drew)
      refine start_ (n := 19) (S := fun w' => w'.cell? ⟨w.heap.size, 4, none⟩ = some (.slice ar r.length cr) ∧ w'.cell? ⟨w.heap.size + 1, 0, none⟩ = some (.bool chars) ∧ w'.cell? ⟨w.heap.size + 1, 1, none⟩ = some (.bool true)) (ds := []) #[Z,Z,Z,Z,Z,Z,Z,Z,Z,Z,Z,Z,Z,Z,Z,Z,Z,Z,Z] (by kernel_rfl) rfl rfl ⟨cell_heap (i := 4) ((HBa.out.block _ (by have := hsz.out; omega)).trans HN0.out) rfl, cell_heap (i := 0) ((HBa.out.block _ (by have := hsz.out; omega)).trans HM0.out) rfl, cell_heap (i := 1) ((HBa.out.block _ (by have := hsz.out; omega)).trans HM0.out) rfl⟩ (fun hHeld => ?_)
      refine with_self (fun HT_ => ?_)
      generalize wa.drew = w1 at HBa hHeld ⊢
      refine pure_ (i := 0) (N := some 49) (v := ?_) (a' := ?_) #[I,Z,Z,Z,Z,Z,Z,Z,Z,Z,Z,Z,Z,Z,Z,Z,Z,Z,Z] rfl rfl (any_of HT_.out (by kernel_rfl)) (fun _ _ _ h => h) (Or.inl ⟨by rfl, ?_⟩) ?_ ?_
      rotate_left
      ·intro w'
       go_simp
       with_reducible rfl
      rotate_left
      ·simp only [Act.put, pu_, pz_, ps_, i64_w, i32_w]
       rfl
      refine take_ (i := 1) (N := some 50) (v := ?_) (a' := ?_) #[I,I,Z,Z,Z,Z,Z,Z,Z,Z,Z,Z,Z,Z,Z,Z,Z,Z,Z] rfl rfl (take_of HT_.out (by kernel_rfl)) (fun _ _ _ h => h) (Or.inl ⟨by rfl, ?_⟩) hHeld ?_ ?_
      rotate_left
      ·rintro w' ⟨s0, s1, s2⟩
       go_simp
       with_reducible rfl
      rotate_left
      ·simp only [Act.put, pu_, pz_, ps_, i64_w, i32_w]
       rfl
      refine pure_ (i := 2) (N := some 51) (v := ?_) (a' := ?_) #[I,I,I,Z,Z,Z,Z,Z,Z,Z,Z,Z,Z,Z,Z,Z,Z,Z,Z] rfl rfl (any_of HT_.out (by kernel_rfl)) (fun _ _ _ h => h) (Or.inl ⟨by rfl, ?_⟩) ?_ ?_
      rotate_left
      ·intro w'
       go_simp
       with_reducible rfl
      rotate_left
      ·simp only [Act.put, pu_, pz_, ps_, i64_w, i32_w]
       rfl
      refine take_ (i := 3) (N := some 52) (v := ?_) (a' := ?_) #[I,I,I,I,Z,Z,Z,Z,Z,Z,Z,Z,Z,Z,Z,Z,Z,Z,Z] rfl rfl (take_of HT_.out (by kernel_rfl)) (fun _ _ _ h => h) (Or.inl ⟨by rfl, ?_⟩) hHeld ?_ ?_
      rotate_left
      ·rintro w' ⟨s0, s1, s2⟩
       go_simp
       with_reducible rfl
      rotate_left
      ·simp only [Act.put, pu_, pz_, ps_, i64_w, i32_w]
       rfl
      refine one_ (i := 4) (N := some 53) #[I,I,I,I,I,Z,Z,Z,Z,Z,Z,Z,Z,Z,Z,Z,Z,Z,Z] rfl rfl (one_of HT_.out (by kernel_rfl)) (by decide) (fun K hK => ?_)
      refine goes_ Tryz.func123 (by kernel_rfl) rfl #[.slice ar r.length cr, .bool chars] (by rfl) rfl rfl (by (try simp only [List.map_toArray, List.map_cons, List.map_nil]); first | done | rfl) ?_
      refine (classes_Right.calls k1 ar cr r chars _ w1 (C_below2 HC.out HBa.out) HCR.out F1.out).mono ?_
      rintro e w2 ⟨rfl, hB⟩
      have HB2 := Lib.hid (HBa.out.trans (hB.mono HBa.out.size))
      clear hB
      refine ⟨_, rfl, ?_⟩
      clear hHeld
      refine hK.out _ _ ⟨cell_heap (i := 4) ((HB2.out.block _ (by have := hsz.out; omega)).trans HN0.out) rfl, cell_heap (i := 0) ((HB2.out.block _ (by have := hsz.out; omega)).trans HM0.out) rfl, cell_heap (i := 1) ((HB2.out.block _ (by have := hsz.out; omega)).trans HM0.out) rfl⟩ (fun hHeld => ?_)
      clear hK K
      refine norm_ (a' := ?_) ?_ ?_
      rotate_left
      ·show Act.put _ (some 53) _ = _
       simp only [Act.put, pu_, pz_, ps_, i64_w, i32_w]
       rfl
      refine pure_ (i := 5) (N := some 54) (v := ?_) (a' := ?_) #[I,I,I,I,I,I,Z,Z,Z,Z,Z,Z,Z,Z,Z,Z,Z,Z,Z] rfl rfl (any_of HT_.out (by kernel_rfl)) (fun _ _ _ h => h) (Or.inl ⟨by rfl, ?_⟩) ?_ ?_
      rotate_left
      ·intro w'
       go_simp
       with_reducible rfl
      rotate_left
      ·simp only [Act.put, pu_, pz_, ps_, i64_w, i32_w]
       rfl
      refine pure_ (i := 6) (N := some 55) (v := ?_) (a' := ?_) #[I,I,I,I,I,I,I,Z,Z,Z,Z,Z,Z,Z,Z,Z,Z,Z,Z] rfl rfl (any_of HT_.out (by kernel_rfl)) (fun _ _ _ h => h) (Or.inl ⟨by rfl, ?_⟩) ?_ ?_
      rotate_left
      ·intro w'
       go_simp
       with_reducible rfl
      rotate_left
      ·simp only [Act.put, pu_, pz_, ps_, i64_w, i32_w]
       rfl
      refine pure_ (i := 7) (N := some 56) (v := ?_) (a' := ?_) #[I,I,I,I,I,I,I,I,Z,Z,Z,Z,Z,Z,Z,Z,Z,Z,Z] rfl rfl (any_of HT_.out (by kernel_rfl)) (fun _ _ _ h => h) (Or.inl ⟨by rfl, ?_⟩) ?_ ?_
      rotate_left
      ·intro w'
       go_simp
       with_reducible rfl
      rotate_left
      ·simp only [Act.put, pu_, pz_, ps_, i64_w, i32_w]
       rfl
      refine take_ (i := 8) (N := some 57) (v := ?_) (a' := ?_) #[I,I,I,I,I,I,I,I,I,Z,Z,Z,Z,Z,Z,Z,Z,Z,Z] rfl rfl (take_of HT_.out (by kernel_rfl)) (fun _ _ _ h => h) (Or.inl ⟨by rfl, ?_⟩) hHeld ?_ ?_
      rotate_left
      ·rintro w' ⟨s0, s1, s2⟩
       go_simp
       with_reducible rfl
      rotate_left
      ·simp only [Act.put, pu_, pz_, ps_, i64_w, i32_w]
       rfl
      refine pure_ (i := 9) (N := some 58) (v := ?_) (a' := ?_) #[I,I,I,I,I,I,I,I,I,I,Z,Z,Z,Z,Z,Z,Z,Z,Z] rfl rfl (any_of HT_.out (by kernel_rfl)) (fun _ _ _ h => h) (Or.inl ⟨by rfl, ?_⟩) ?_ ?_
      rotate_left
      ·intro w'
       go_simp
       with_reducible rfl
      rotate_left
      ·simp only [Act.put, pu_, pz_, ps_, i64_w, i32_w]
       rfl
      refine pure_ (i := 10) (N := some 59) (v := ?_) (a' := ?_) #[I,I,I,I,I,I,I,I,I,I,I,Z,Z,Z,Z,Z,Z,Z,Z] rfl rfl (any_of HT_.out (by kernel_rfl)) (fun _ _ _ h => h) (Or.inl ⟨by rfl, ?_⟩) ?_ ?_
      rotate_left
      ·intro w'
       go_simp
       with_reducible rfl
      rotate_left
      ·simp only [Act.put, pu_, pz_, ps_, i64_w, i32_w]
       rfl
      refine take_ (i := 11) (N := some 60) (v := ?_) (a' := ?_) #[I,I,I,I,I,I,I,I,I,I,I,I,Z,Z,Z,Z,Z,Z,Z] rfl rfl (take_of HT_.out (by kernel_rfl)) (fun _ _ _ h => h) (Or.inl ⟨by rfl, ?_⟩) hHeld ?_ ?_
      rotate_left
      ·rintro w' ⟨s0, s1, s2⟩
       go_simp
       with_reducible rfl
      rotate_left
      ·simp only [Act.put, pu_, pz_, ps_, i64_w, i32_w]
       rfl
      refine pure_ (i := 13) (N := some 62) (v := ?_) (a' := ?_) #[I,I,I,I,I,I,I,I,I,I,I,I,Z,I,Z,Z,Z,Z,Z] rfl rfl (any_of HT_.out (by kernel_rfl)) (fun _ _ _ h => h) (Or.inl ⟨by rfl, ?_⟩) ?_ ?_
      rotate_left
      ·intro w'
       go_simp
       with_reducible rfl
      rotate_left
      ·simp only [Act.put, pu_, pz_, ps_, i64_w, i32_w]
       rfl
      refine take_ (i := 14) (N := some 63) (v := ?_) (a' := ?_) #[I,I,I,I,I,I,I,I,I,I,I,I,Z,I,I,Z,Z,Z,Z] rfl rfl (take_of HT_.out (by kernel_rfl)) (fun _ _ _ h => h) (Or.inl ⟨by rfl, ?_⟩) hHeld ?_ ?_
      rotate_left
      ·rintro w' ⟨s0, s1, s2⟩
       go_simp
       with_reducible rfl
      rotate_left
      ·simp only [Act.put, pu_, pz_, ps_, i64_w, i32_w]
       rfl
      refine one_ (i := 12) (N := some 61) #[I,I,I,I,I,I,I,I,I,I,I,I,I,I,I,Z,Z,Z,Z] rfl rfl (one_of HT_.out (by kernel_rfl)) (by decide) (fun K hK => ?_)
      refine goes_ Tryz.func63 (by kernel_rfl) rfl #[.slice ar r.length cr] (by rfl) rfl rfl (by (try simp only [List.map_toArray, List.map_cons, List.map_nil]); first | done | rfl) ?_
      refine (classes_Fold.calls ar cr r F w2 (C_below2 HC.out HB2.out) HCR.out F2.out).mono ?_
      rintro e w3 ⟨vF, rfl, hR, hB⟩
      have HB3 := Lib.hid (HB2.out.trans (hB.mono HB2.out.size))
      obtain ⟨AF, cF, rfl⟩ := Kd.R_slice hR
      have LF := Lib.hid (rR hR).2.1
      have CF := Lib.hid (rR hR).2.2
      clear hR
      clear hB
      refine ⟨_, rfl, ?_⟩
      clear hHeld
      refine hK.out _ _ ⟨cell_heap (i := 4) ((HB3.out.block _ (by have := hsz.out; omega)).trans HN0.out) rfl, cell_heap (i := 0) ((HB3.out.block _ (by have := hsz.out; omega)).trans HM0.out) rfl, cell_heap (i := 1) ((HB3.out.block _ (by have := hsz.out; omega)).trans HM0.out) rfl⟩ (fun hHeld => ?_)
      clear hK K
      refine norm_ (a' := ?_) ?_ ?_
      rotate_left
      ·show Act.put _ (some 61) _ = _
       simp only [Act.put, pu_, pz_, ps_, i64_w, i32_w]
       rfl
      refine one_ (i := 15) (N := some 64) #[I,I,I,I,I,I,I,I,I,I,I,I,I,I,I,I,Z,Z,Z] rfl rfl (one_of HT_.out (by kernel_rfl)) (by decide) (fun K hK => ?_)
      refine goes_ Tryz.func115 (by kernel_rfl) rfl #[.slice AF F.length cF, .slice ar r.length cr] (by rfl) rfl rfl (by (try simp only [List.map_toArray, List.map_cons, List.map_nil]); first | done | rfl) ?_
      refine (api_Range_77.calls k2 AF cF F ar cr r _ w3 CF.out LF.out (C_below2 HC.out HB3.out) HCR.out F3.out).mono ?_
      rintro e w4 ⟨rfl, hD⟩
      have hB := below_drawn (Below.refl w3.heap.size w3) hD
      have HB4 := Lib.hid (HB3.out.trans (hB.mono HB3.out.size))
      clear hB hD
      refine ⟨_, rfl, ?_⟩
      clear hHeld
      refine hK.out _ _ ⟨cell_heap (i := 4) ((HB4.out.block _ (by have := hsz.out; omega)).trans HN0.out) rfl, cell_heap (i := 0) ((HB4.out.block _ (by have := hsz.out; omega)).trans HM0.out) rfl, cell_heap (i := 1) ((HB4.out.block _ (by have := hsz.out; omega)).trans HM0.out) rfl⟩ (fun hHeld => ?_)
      clear hK K
      refine norm_ (a' := ?_) ?_ ?_
      rotate_left
      ·show Act.put _ (some 64) _ = _
       simp only [Act.put, pu_, pz_, ps_, i64_w, i32_w]
       rfl
      refine pure_ (i := 16) (N := some 65) (v := ?_) (a' := ?_) #[I,I,I,I,I,I,I,I,I,I,I,I,I,I,I,I,I,Z,Z] rfl rfl (any_of HT_.out (by kernel_rfl)) (fun _ _ _ h => h) (Or.inl ⟨by rfl, ?_⟩) ?_ ?_
      rotate_left
      ·intro w'
       go_simp
       with_reducible rfl
      rotate_left
      ·simp only [Act.put, pu_, pz_, ps_, i64_w, i32_w]
       rfl
      refine pure_ (i := 17) (N := some 66) (v := ?_) (a' := ?_) #[I,I,I,I,I,I,I,I,I,I,I,I,I,I,I,I,I,I,Z] rfl rfl (any_of HT_.out (by kernel_rfl)) (fun _ _ _ h => h) (Or.inl ⟨by rfl, ?_⟩) ?_ ?_
      rotate_left
      ·intro w'
       go_simp
       with_reducible rfl
      rotate_left
      ·simp only [Act.put, pu_, pz_, ps_, i64_w, i32_w]
       rfl
      refine pure_ (i := 18) (N := some 67) (v := ?_) (a' := ?_) #[I,I,I,I,I,I,I,I,I,I,I,I,I,I,I,I,I,I,I] rfl rfl (any_of HT_.out (by kernel_rfl)) (fun _ _ _ h => h) (Or.inl ⟨by rfl, ?_⟩) ?_ ?_
      rotate_left
      ·intro w'
       go_simp
       with_reducible rfl
      rotate_left
      ·simp only [Act.put, pu_, pz_, ps_, i64_w, i32_w]
       rfl
      refine done_ (done_of HT_.out (by kernel_rfl)) ?_
      clear HT_ hHeld
      go_wp2
      go_meet
      case rel => exact ⟨by rw [HS.out]; first | rfl | (cases fOk <;> rfl), ⟨HB4.out⟩⟩
   case rest =>
    obtain ⟨rfl, HX⟩ := hcut
    have HBm := Lib.hid (show Below w.heap.size w wc from HBl.out.trans (HX.out.mono HBl.out.size))
    cases S with
    | false =>
     go_wp2
     all_goals go_ret
     all_goals exact ⟨by first | rfl | (simp [formedB, *]; done) | (simp [formedB, *]; intros; omega), HBm.out⟩
    | true =>
     go_wp2
     all_goals go_ret
     all_goals exact ⟨by first | rfl | (simp [formedB, *]; done) | (simp [formedB, *]; intros; omega), HBm.out⟩
  by_cases g5 : k = 5
  ·subst g5
   go_wp2
   all_goals go_ret
   all_goals exact ⟨by first | rfl | (simp [formedB, *]; done) | (simp [formedB, *]; intros; omega), HBl.out⟩
  by_cases g6 : k = 6
  ·subst g6
   go_wp2
   all_goals go_ret
   all_goals exact ⟨by first | rfl | (simp [formedB, *]; done) | (simp [formedB, *]; intros; omega), HBl.out⟩
  by_cases g7 : k = 7
  ·subst g7
   go_wp2
   all_goals go_ret
   all_goals exact ⟨by first | rfl | (simp [formedB, *]; done) | (simp [formedB, *]; intros; omega), HBl.out⟩
  by_cases g8 : k = 8
  ·subst g8
   have c1 := cell_heap (i := 1) HN0.out rfl
   have hd := HD.out
   go_wp2
   all_goals go_ret
   all_goals exact ⟨by first | rfl | (simp [formedB, *]; done) | (simp [formedB, *]; intros; omega), HBl.out⟩
  by_cases g9 : k = 9
  ·subst g9
   have c2 := cell_heap (i := 2) HN0.out rfl
   have c3 := cell_heap (i := 3) HN0.out rfl
   have hb := fun w => bounds_calls lo hi w
   rw [← HU.out] at hb
   have HB := Lib.hid hb
   clear hb
   go_wp2_with fail
   refine (HB.out _).mono ?_
   rintro e w3 ⟨rfl, rfl⟩
   go_wp2
   all_goals go_ret
   all_goals exact ⟨by first | rfl | (simp [formedB, *]; done) | (simp [formedB, *]; intros; omega), HBl.out⟩
  have b1 : (k == 1) = false := beq_eq_false_iff_ne.2 g1
  have b3 : (k == 3) = false := beq_eq_false_iff_ne.2 g3
  have b4 : (k == 4) = false := beq_eq_false_iff_ne.2 g4
  have b2 : (k == 2) = false := beq_eq_false_iff_ne.2 g2
  have b5 : (k == 5) = false := beq_eq_false_iff_ne.2 g5
  have b6 : (k == 6) = false := beq_eq_false_iff_ne.2 g6
  have b7 : (k == 7) = false := beq_eq_false_iff_ne.2 g7
  have b8 : (k == 8) = false := beq_eq_false_iff_ne.2 g8
  have b9 : (k == 9) = false := beq_eq_false_iff_ne.2 g9
  go_wp2
  all_goals go_ret
  all_goals exact ⟨by first | rfl | (simp [formedB, *]; done) | (simp [formedB, *]; intros; omega), HBl.out⟩
end Go.Proofs.YtamhkdlcoghdbaaGreatDoor.PCls
