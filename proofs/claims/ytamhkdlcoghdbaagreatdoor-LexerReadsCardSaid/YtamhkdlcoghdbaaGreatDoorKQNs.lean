/- Out of Ns (wip/tools/prune2.py): the declarations alone that the texts of the trees name. -/
import Derived.Test.YtamhkdlcoghdbaaGreatDoorKMQNx
namespace Go.Proofs.YtamhkdlcoghdbaaGreatDoor.PCls
open Go.RowKit Go.Shelf Go.Proofs.YtamhkdlcoghdbaaGreatDoorW.PrintWords Go.Proofs.YtamhkdlcoghdbaaGreatDoorW.PrintLast Go.Proofs.YtamhkdlcoghdbaaGreatDoorW.PrintMore
set_option linter.unusedVariables false
set_option linter.unusedSimpArgs false
def acc (s : ByteArray) (p c0 : Nat) : Nat → Nat
  | 0 => c0
  | k + 1 => 64 * acc s p c0 k + (Lx.byt s (p + k + 1) - 128)
def cnt (s : ByteArray) (p k : Nat) : Prop := ∀ j, 1 ≤ j → j < k → 128 ≤ Lx.byt s (p + j) ∧ Lx.byt s (p + j) ≤ 191
theorem acc_step {a b m n : Nat} (h : a + 1 ≤ m * n) (hb : b ≤ 63) : 64 * a + b + 1 ≤ m * (n * 64) := by
  rw [← Nat.mul_assoc]
  omega
theorem acc_lim (s : ByteArray) (p c0 m : Nat) (hm : c0 + 1 ≤ m) : ∀ k, cnt s p (k + 1) → acc s p c0 k + 1 ≤ m * Nat.pow 64 k
  | 0, h => by show c0 + 1 ≤ m * 1; omega
  | k + 1, h => by
    have ih := acc_lim s p c0 m hm k (fun j h1 h2 => h j h1 (by omega))
    have h3 := h (k + 1) (by omega) (by omega)
    exact acc_step ih (by rw [show p + (k + 1) = p + k + 1 by omega] at h3; omega)
theorem unit_asc (s : ByteArray) (p : Nat) (hp : p < s.size) (h : Lx.byt s p < 128) : Lx.unit s true p = ((Lx.byt s p : Int), 1) := by
  have hd : dAt s p = (Lx.byt s p, 1) := by unfold dAt Lib.decodeN; rw [if_pos h]
  unfold Lx.unit
  rw [if_pos hp, if_pos rfl, if_pos, dAt_eq, hd]
  unfold okAt
  rw [dAt_eq, hd]
  simp
  omega
def unV (s : ByteArray) (p : Nat) : Value := .tuple #[.int .i64 (Lx.unit s true p).1, .int .i64 (Lx.unit s true p).2]
set_option maxHeartbeats 4000000 in
set_option maxRecDepth 100000 in
theorem rnext_low (s : ByteArray) (p : Nat) (w : World) (hs : s.size ≤ 140737488351232) (hpp : p ≤ 140737488351232) (hl : p < s.size → Lx.byt s p < 192 ∨ 248 ≤ Lx.byt s p) : Calls Tryz.prog 139 #[.string s, .int .i64 p] w fun e w' => e = .returned (unV s p) ∧ Below w.heap.size w w' := by
  have h0 : (0 : Int) ≤ (p : Int) := by omega
  by_cases hp : p < s.size
  · have h := hl hp
    have hb := (byt_at s p hp).symm
    have hlt := byt_lt s p
    have i1 : ¬ s.size ≤ p := by omega
    have i2 : (p : Int) < (s.size : Int) := by omega
    by_cases h1 : Lx.byt s p < 128
    · have HX := Lib.hid (unit_asc s p hp h1)
      obtain ⟨b, hbb⟩ : ∃ b, b = Lx.byt s p := ⟨_, rfl⟩
      rw [← hbb] at h1 hlt HX hb
      have j1 : (b : Int) < 128 := by omega
      clear hl h h1 hlt hbb
      go_enter Tryz.func139, Tryz.ntmps139
      go_wp2_with fail
      go_ret2
      exact ⟨by unfold unV; rw [HX.out]; rfl, Below.refl _ _⟩
    · have hd : dAt s p = (65533, 1) := dNx _ _ _ _ _ (by omega) hlt
      have HX := Lib.hid (unit_bad hp hd)
      obtain ⟨b, hbb⟩ : ∃ b, b = Lx.byt s p := ⟨_, rfl⟩
      rw [← hbb] at h1 h hlt hb
      have j1 : ¬ (b : Int) < 128 := by omega
      have j9 : b ≤ 255 := by omega
      clear hl hlt hbb hd
      rcases h with h | h
      · have j2 : ¬ 192 ≤ (b : Int) := by omega
        have j3 : ¬ 224 ≤ (b : Int) := by omega
        have j4 : ¬ 240 ≤ (b : Int) := by omega
        clear h h1
        go_enter Tryz.func139, Tryz.ntmps139
        go_wp2_with fail
        go_ret2
        exact ⟨by unfold unV; rw [HX.out]; rfl, Below.refl _ _⟩
      · have j2 : 192 ≤ (b : Int) := by omega
        have j3 : 224 ≤ (b : Int) := by omega
        have j4 : 240 ≤ (b : Int) := by omega
        have j5 : ¬ (b : Int) < 224 := by omega
        have j6 : ¬ (b : Int) < 240 := by omega
        have j7 : ¬ (b : Int) < 248 := by omega
        clear h h1
        go_enter Tryz.func139, Tryz.ntmps139
        go_wp2_with fail
        go_ret2
        exact ⟨by unfold unV; rw [HX.out]; rfl, Below.refl _ _⟩
  · have HX := Lib.hid (unit_none s true p hp)
    have i1 : s.size ≤ p := by omega
    have j1 : ¬ (p : Int) < 0 := by omega
    clear hp hl
    go_enter Tryz.func139, Tryz.ntmps139
    go_wp2_with fail
    go_ret2
    exact ⟨by unfold unV; rw [HX.out]; rfl, Below.refl _ _⟩
/-- what is left at the end: a character, and its bytes -/
def okC (s : ByteArray) (p n c : Nat) : Bool := isC c && (encB c == (s.extract p (p + n)).toList)
structure UnN (s : ByteArray) (p n c0 : Nat) : Prop where
  yes : p + n ≤ s.size → cnt s p n → okC s p n (acc s p c0 (n - 1)) = true → Lx.unit s true p = (((acc s p c0 (n - 1) : Nat) : Int), n)
  no : ¬ (p + n ≤ s.size ∧ cnt s p n ∧ okC s p n (acc s p c0 (n - 1)) = true) → Lx.unit s true p = (-1, 1)
set_option maxHeartbeats 4000000 in
set_option maxRecDepth 100000 in
theorem rnext_2 (s : ByteArray) (p : Nat) (w : World) (hs : s.size ≤ 140737488351232) (hp : p < s.size) (h : 192 ≤ Lx.byt s p ∧ Lx.byt s p < 224) (hU : UnN s p 2 (Lx.byt s p - 192)) :
    Calls Tryz.prog 139 #[.string s, .int .i64 p] w fun e w' => e = .returned (unV s p) ∧ Below w.heap.size w w' := by
  have h0 : (0 : Int) ≤ (p : Int) := by omega
  have hpp : (p : Int) ≤ 140737488351232 := by omega
  have hb := (byt_at s p hp).symm
  have hlt := byt_lt s p
  have i1 : ¬ s.size ≤ p := by omega
  have i2 : (p : Int) < (s.size : Int) := by omega
  have HA := Lib.hid (acc_lim s p (Lx.byt s p - 192) 32 (by omega))
  have HU := Lib.hid hU
  obtain ⟨b, hbb⟩ : ∃ b, b = Lx.byt s p := ⟨_, rfl⟩
  rw [← hbb] at hb h hlt HU HA
  have j1 : ¬ (b : Int) < 128 := by omega
  have j2 : 192 ≤ (b : Int) := by omega
  have j3 : (b : Int) < 224 := by omega
  have j8 : (b : Int) ≤ 255 := by omega
  have j9 : ((b : Int) - 192) = ((b - 192 : Nat) : Int) := by omega
  generalize b - 192 = c0 at *
  clear h hlt hbb hU
  by_cases hn : p + 2 ≤ s.size
  · have k1 : ¬ ((s.size : Int) - (p : Int) < 2) := by omega
    go_enter Tryz.func139, Tryz.ntmps139
    go_wp2_with fail
    go_loop [7, 8] (fun a7 a8 => ∃ k : Nat, 1 ≤ k ∧ k ≤ 2 ∧ a8 = .int .i64 k ∧ a7 = .int .i64 ((acc s p c0 (k - 1) : Nat) : Int) ∧ Hid (cnt s p k)) (fun _ a8 => 2 - (intOf a8).toNat)
    case atStart => exact ⟨1, by omega, by omega, rfl, rfl, Lib.hid (fun j h1 h2 => by omega)⟩
    case round =>
      obtain ⟨k, hk1, hk2, rfl, rfl, HC⟩ := hrel
      obtain ⟨j, rfl⟩ : ∃ j, k = j + 1 := ⟨k - 1, by omega⟩
      have HL := HA.out j HC.out
      rw [Nat.add_sub_cancel]
      by_cases hk : j + 1 < 2
      · have q1 : p + (j + 1) < s.size := by omega
        have q2 : acc s p c0 j ≤ 32767 := by
          have : j = 0 ∨ j = 1 ∨ j = 2 := by omega
          rcases this with rfl | rfl | rfl <;> simp [Nat.pow] at HL <;> omega
        have q3 := (byt_at s (p + (j + 1)) q1).symm
        have q4 := byt_lt s (p + (j + 1))
        have q5 : (j : Int) + 1 < 2 := by omega
        have q6 : (p : Int) + ((j : Int) + 1) < (s.size : Int) := by omega
        have HY := Lib.hid (show acc s p c0 (j + 1) = 64 * acc s p c0 j + (Lx.byt s (p + (j + 1)) - 128) from rfl)
        have HZ := Lib.hid (show 128 ≤ Lx.byt s (p + (j + 1)) ∧ Lx.byt s (p + (j + 1)) ≤ 191 → cnt s p (j + 2) from fun e i h1 h2 => by
          rcases Nat.lt_or_ge i (j + 1) with h | h
          · exact HC.out i h1 h
          · rw [show i = j + 1 by omega]; exact e)
        have HN := Lib.hid (show ¬ (128 ≤ Lx.byt s (p + (j + 1)) ∧ Lx.byt s (p + (j + 1)) ≤ 191) → Lx.unit s true p = (-1, 1) from fun e => HU.out.no fun h => e (h.2.1 (j + 1) (by omega) hk))
        obtain ⟨d, hd⟩ : ∃ d, d = Lx.byt s (p + (j + 1)) := ⟨_, rfl⟩
        obtain ⟨A, hA⟩ : ∃ A, A = acc s p c0 j := ⟨_, rfl⟩
        rw [← hd] at q3 q4 HY HZ HN
        rw [← hA] at q2 HY ⊢
        clear HL hd hA HU HC HA
        by_cases c1 : d < 128
        · have r1 : (d : Int) < 128 := by omega
          have HX := Lib.hid (HN.out (by omega))
          clear HN HZ HY c1 hn
          go_wp2_with fail
          go_ret2
          exact ⟨by unfold unV; rw [HX.out]; rfl, Below.refl _ _⟩
        · have r1 : ¬ (d : Int) < 128 := by omega
          by_cases c2 : 191 < d
          · have r2 : 191 < (d : Int) := by omega
            have r3 : (d : Int) ≤ 255 := by omega
            have HX := Lib.hid (HN.out (by omega))
            clear HN HZ HY c1 c2 hn
            go_wp2_with fail
            go_ret2
            exact ⟨by unfold unV; rw [HX.out]; rfl, Below.refl _ _⟩
          · have r2 : ¬ 191 < (d : Int) := by omega
            have HX := Lib.hid (HZ.out (by omega))
            clear HN HZ hn
            go_wp2_with fail
            go_round
            case rel => exact ⟨j + 2, by omega, by omega, by go_num, by rw [Nat.add_sub_cancel (n := j + 1) (m := 1), HY.out]; exact congrArg (Value.int .i64) (by omega), HX⟩
            case measure => simp [intOf]; omega
      · obtain rfl : j = 1 := by omega
        have q5 : ¬ ((1 : Nat) : Int) + 1 < 2 := by omega
        have q2 : acc s p c0 1 ≤ 2097151 := by simp [Nat.pow] at HL; omega
        have HY := Lib.hid (HU.out.yes hn HC.out)
        have HN := Lib.hid (show okC s p 2 (acc s p c0 1) = false → Lx.unit s true p = (-1, 1) from fun e => HU.out.no fun h => by rw [show acc s p c0 (2 - 1) = acc s p c0 1 from rfl, e] at h; cases h.2.2)
        rw [show acc s p c0 (2 - 1) = acc s p c0 1 from rfl] at HY
        generalize acc s p c0 1 = c at *
        have HI := Lib.hid (is_calls c)
        have HT := Lib.hid (text_calls c q2)
        clear HU HA HC HL
        go_wp2_with fail
        refine (HI.out _).mono ?_
        rintro e w ⟨rfl, hw⟩
        subst hw
        cases hi : isC c
        · have HX := Lib.hid (HN.out (by unfold okC; rw [hi]; rfl))
          clear hi HN HY HI
          go_wp2_with fail
          refine go_start (fun w' => Below w.heap.size w w') [] [.p 0, .p 1, .p 2, .p 3, .p 5, .p 6, .p 7, .p 8, .p 9, .p 10, .p 4, .p 11, .p 12] (by kernel_rfl) (by kernel_rfl) (fun c d v a w h => by cases d <;> exact h) ((Below.refl _ w).drew) (fun w2 hS2 => ?_)
          repeat first
          | refine go_p (v := ?_) (b := ?_) rfl (.inl ⟨by rfl, ?_⟩) ?_ ?_
            rotate_left 2
            · intro w'; go_simp; with_reducible rfl
            · simp only [Act.put, pu_, pz_, ps_, i64_w, i32_w]; rfl
          | refine go_p (v := undef) (b := ?_) rfl (.inr ⟨by rfl, rfl⟩) ?_ ?_
            rotate_left
            · simp only [Act.put, pu_, pz_, ps_, i64_w, i32_w]; rfl
          refine go_done ?_
          have HB := Lib.hid hS2
          clear hS2
          go_wp2_with fail
          go_ret2
          exact ⟨by unfold unV; rw [HX.out]; rfl, HB.out⟩
        · have hpe : ((p : Int) + 2).toNat = p + 2 := by omega
          have hw : wrap64 ((p : Int) + 2) = (p : Int) + 2 := w64_in _ (by omega) (by omega)
          have r1 : (p : Int) ≤ (p : Int) + 2 := by omega
          have r2 : (p : Int) + 2 ≤ (s.size : Int) := by omega
          have HO := Lib.hid (show okC s p 2 c = (encB c == (s.extract p (p + 2)).toList) by unfold okC; rw [hi]; rfl)
          clear hi HI
          go_wp2_with fail
          refine go_start (fun w' => Below w.heap.size w w') [] [.p 0, .p 1, .p 2, .p 3, .p 5, .p 6, .p 7, .p 8, .p 9, .p 10, .o 4, .p 11, .p 12] (by kernel_rfl) (by kernel_rfl) (fun c d v a w h => by cases d <;> exact h) ((Below.refl _ w).drew) (fun w2 hS2 => ?_)
          repeat
            refine go_p (v := ?_) (b := ?_) rfl (.inl ⟨by rfl, ?_⟩) ?_ ?_
            rotate_left 2
            · intro w'; go_simp; with_reducible rfl
            · simp only [Act.put, List.setIfInBounds_toArray, List.set_cons_zero, List.set_cons_succ, i64_w, i32_w, hw]; rfl
          refine go_call rfl (by rfl) Tryz.func185 (by kernel_rfl) rfl (by simp only [List.map_toArray, List.map_cons, List.map_nil]; rfl) (HT.out w2) ?_
          rintro e w3 ⟨rfl, hb3⟩
          have hS3 : Below w.heap.size w w3 := hS2.trans (hb3.mono hS2.size)
          refine ⟨_, _, rfl, hS3, (by simp only [Act.put, List.setIfInBounds_toArray, List.set_cons_zero, List.set_cons_succ]; rfl), ?_⟩
          repeat
            refine go_p (v := ?_) (b := ?_) rfl (.inl ⟨by rfl, ?_⟩) ?_ ?_
            rotate_left 2
            · intro w'; go_simp; with_reducible rfl
            · simp only [Act.put, List.setIfInBounds_toArray, List.set_cons_zero, List.set_cons_succ, i64_w, i32_w, hw]; rfl
          refine go_done ?_
          have HB := Lib.hid hS3
          clear hS3 hS2 hb3
          cases he : (encB c == (s.extract p (p + 2)).toList) with
          | true =>
            have HX := Lib.hid (HY.out (HO.out.trans he))
            go_wp2_with fail
            go_ret2
            exact ⟨by unfold unV; rw [HX.out]; rfl, HB.out⟩
          | false =>
            have HX := Lib.hid (HN.out (HO.out.trans he))
            go_wp2_with fail
            go_ret2
            exact ⟨by unfold unV; rw [HX.out]; rfl, HB.out⟩
  · have HX := Lib.hid (HU.out.no (fun e => hn e.1))
    have k1 : ((s.size : Int) - (p : Int) < 2) := by omega
    clear HU HA hn
    go_enter Tryz.func139, Tryz.ntmps139
    go_wp2_with fail
    go_ret2
    exact ⟨by unfold unV; rw [HX.out]; rfl, Below.refl _ _⟩
set_option maxHeartbeats 4000000 in
set_option maxRecDepth 100000 in
theorem rnext_3 (s : ByteArray) (p : Nat) (w : World) (hs : s.size ≤ 140737488351232) (hp : p < s.size) (h : 224 ≤ Lx.byt s p ∧ Lx.byt s p < 240) (hU : UnN s p 3 (Lx.byt s p - 224)) :
    Calls Tryz.prog 139 #[.string s, .int .i64 p] w fun e w' => e = .returned (unV s p) ∧ Below w.heap.size w w' := by
  have h0 : (0 : Int) ≤ (p : Int) := by omega
  have hpp : (p : Int) ≤ 140737488351232 := by omega
  have hb := (byt_at s p hp).symm
  have hlt := byt_lt s p
  have i1 : ¬ s.size ≤ p := by omega
  have i2 : (p : Int) < (s.size : Int) := by omega
  have HA := Lib.hid (acc_lim s p (Lx.byt s p - 224) 16 (by omega))
  have HU := Lib.hid hU
  obtain ⟨b, hbb⟩ : ∃ b, b = Lx.byt s p := ⟨_, rfl⟩
  rw [← hbb] at hb h hlt HU HA
  have j1 : ¬ (b : Int) < 128 := by omega
  have j2 : 192 ≤ (b : Int) := by omega
  have j3 : ¬ (b : Int) < 224 := by omega
  have j4 : 224 ≤ (b : Int) := by omega
  have j5 : (b : Int) < 240 := by omega
  have j8 : (b : Int) ≤ 255 := by omega
  have j9 : ((b : Int) - 224) = ((b - 224 : Nat) : Int) := by omega
  generalize b - 224 = c0 at *
  clear h hlt hbb hU
  by_cases hn : p + 3 ≤ s.size
  · have k1 : ¬ ((s.size : Int) - (p : Int) < 3) := by omega
    go_enter Tryz.func139, Tryz.ntmps139
    go_wp2_with fail
    go_loop [7, 8] (fun a7 a8 => ∃ k : Nat, 1 ≤ k ∧ k ≤ 3 ∧ a8 = .int .i64 k ∧ a7 = .int .i64 ((acc s p c0 (k - 1) : Nat) : Int) ∧ Hid (cnt s p k)) (fun _ a8 => 3 - (intOf a8).toNat)
    case atStart => exact ⟨1, by omega, by omega, rfl, rfl, Lib.hid (fun j h1 h2 => by omega)⟩
    case round =>
      obtain ⟨k, hk1, hk2, rfl, rfl, HC⟩ := hrel
      obtain ⟨j, rfl⟩ : ∃ j, k = j + 1 := ⟨k - 1, by omega⟩
      have HL := HA.out j HC.out
      rw [Nat.add_sub_cancel]
      by_cases hk : j + 1 < 3
      · have q1 : p + (j + 1) < s.size := by omega
        have q2 : acc s p c0 j ≤ 32767 := by
          have : j = 0 ∨ j = 1 ∨ j = 2 := by omega
          rcases this with rfl | rfl | rfl <;> simp [Nat.pow] at HL <;> omega
        have q3 := (byt_at s (p + (j + 1)) q1).symm
        have q4 := byt_lt s (p + (j + 1))
        have q5 : (j : Int) + 1 < 3 := by omega
        have q6 : (p : Int) + ((j : Int) + 1) < (s.size : Int) := by omega
        have HY := Lib.hid (show acc s p c0 (j + 1) = 64 * acc s p c0 j + (Lx.byt s (p + (j + 1)) - 128) from rfl)
        have HZ := Lib.hid (show 128 ≤ Lx.byt s (p + (j + 1)) ∧ Lx.byt s (p + (j + 1)) ≤ 191 → cnt s p (j + 2) from fun e i h1 h2 => by
          rcases Nat.lt_or_ge i (j + 1) with h | h
          · exact HC.out i h1 h
          · rw [show i = j + 1 by omega]; exact e)
        have HN := Lib.hid (show ¬ (128 ≤ Lx.byt s (p + (j + 1)) ∧ Lx.byt s (p + (j + 1)) ≤ 191) → Lx.unit s true p = (-1, 1) from fun e => HU.out.no fun h => e (h.2.1 (j + 1) (by omega) hk))
        obtain ⟨d, hd⟩ : ∃ d, d = Lx.byt s (p + (j + 1)) := ⟨_, rfl⟩
        obtain ⟨A, hA⟩ : ∃ A, A = acc s p c0 j := ⟨_, rfl⟩
        rw [← hd] at q3 q4 HY HZ HN
        rw [← hA] at q2 HY ⊢
        clear HL hd hA HU HC HA
        by_cases c1 : d < 128
        · have r1 : (d : Int) < 128 := by omega
          have HX := Lib.hid (HN.out (by omega))
          clear HN HZ HY c1 hn
          go_wp2_with fail
          go_ret2
          exact ⟨by unfold unV; rw [HX.out]; rfl, Below.refl _ _⟩
        · have r1 : ¬ (d : Int) < 128 := by omega
          by_cases c2 : 191 < d
          · have r2 : 191 < (d : Int) := by omega
            have r3 : (d : Int) ≤ 255 := by omega
            have HX := Lib.hid (HN.out (by omega))
            clear HN HZ HY c1 c2 hn
            go_wp2_with fail
            go_ret2
            exact ⟨by unfold unV; rw [HX.out]; rfl, Below.refl _ _⟩
          · have r2 : ¬ 191 < (d : Int) := by omega
            have HX := Lib.hid (HZ.out (by omega))
            clear HN HZ hn
            go_wp2_with fail
            go_round
            case rel => exact ⟨j + 2, by omega, by omega, by go_num, by rw [Nat.add_sub_cancel (n := j + 1) (m := 1), HY.out]; exact congrArg (Value.int .i64) (by omega), HX⟩
            case measure => simp [intOf]; omega
      · obtain rfl : j = 2 := by omega
        have q5 : ¬ ((2 : Nat) : Int) + 1 < 3 := by omega
        have q2 : acc s p c0 2 ≤ 2097151 := by simp [Nat.pow] at HL; omega
        have HY := Lib.hid (HU.out.yes hn HC.out)
        have HN := Lib.hid (show okC s p 3 (acc s p c0 2) = false → Lx.unit s true p = (-1, 1) from fun e => HU.out.no fun h => by rw [show acc s p c0 (3 - 1) = acc s p c0 2 from rfl, e] at h; cases h.2.2)
        rw [show acc s p c0 (3 - 1) = acc s p c0 2 from rfl] at HY
        generalize acc s p c0 2 = c at *
        have HI := Lib.hid (is_calls c)
        have HT := Lib.hid (text_calls c q2)
        clear HU HA HC HL
        go_wp2_with fail
        refine (HI.out _).mono ?_
        rintro e w ⟨rfl, hw⟩
        subst hw
        cases hi : isC c
        · have HX := Lib.hid (HN.out (by unfold okC; rw [hi]; rfl))
          clear hi HN HY HI
          go_wp2_with fail
          refine go_start (fun w' => Below w.heap.size w w') [] [.p 0, .p 1, .p 2, .p 3, .p 5, .p 6, .p 7, .p 8, .p 9, .p 10, .p 4, .p 11, .p 12] (by kernel_rfl) (by kernel_rfl) (fun c d v a w h => by cases d <;> exact h) ((Below.refl _ w).drew) (fun w2 hS2 => ?_)
          repeat first
          | refine go_p (v := ?_) (b := ?_) rfl (.inl ⟨by rfl, ?_⟩) ?_ ?_
            rotate_left 2
            · intro w'; go_simp; with_reducible rfl
            · simp only [Act.put, pu_, pz_, ps_, i64_w, i32_w]; rfl
          | refine go_p (v := undef) (b := ?_) rfl (.inr ⟨by rfl, rfl⟩) ?_ ?_
            rotate_left
            · simp only [Act.put, pu_, pz_, ps_, i64_w, i32_w]; rfl
          refine go_done ?_
          have HB := Lib.hid hS2
          clear hS2
          go_wp2_with fail
          go_ret2
          exact ⟨by unfold unV; rw [HX.out]; rfl, HB.out⟩
        · have hpe : ((p : Int) + 3).toNat = p + 3 := by omega
          have hw : wrap64 ((p : Int) + 3) = (p : Int) + 3 := w64_in _ (by omega) (by omega)
          have r1 : (p : Int) ≤ (p : Int) + 3 := by omega
          have r2 : (p : Int) + 3 ≤ (s.size : Int) := by omega
          have HO := Lib.hid (show okC s p 3 c = (encB c == (s.extract p (p + 3)).toList) by unfold okC; rw [hi]; rfl)
          clear hi HI
          go_wp2_with fail
          refine go_start (fun w' => Below w.heap.size w w') [] [.p 0, .p 1, .p 2, .p 3, .p 5, .p 6, .p 7, .p 8, .p 9, .p 10, .o 4, .p 11, .p 12] (by kernel_rfl) (by kernel_rfl) (fun c d v a w h => by cases d <;> exact h) ((Below.refl _ w).drew) (fun w2 hS2 => ?_)
          repeat
            refine go_p (v := ?_) (b := ?_) rfl (.inl ⟨by rfl, ?_⟩) ?_ ?_
            rotate_left 2
            · intro w'; go_simp; with_reducible rfl
            · simp only [Act.put, List.setIfInBounds_toArray, List.set_cons_zero, List.set_cons_succ, i64_w, i32_w, hw]; rfl
          refine go_call rfl (by rfl) Tryz.func185 (by kernel_rfl) rfl (by simp only [List.map_toArray, List.map_cons, List.map_nil]; rfl) (HT.out w2) ?_
          rintro e w3 ⟨rfl, hb3⟩
          have hS3 : Below w.heap.size w w3 := hS2.trans (hb3.mono hS2.size)
          refine ⟨_, _, rfl, hS3, (by simp only [Act.put, List.setIfInBounds_toArray, List.set_cons_zero, List.set_cons_succ]; rfl), ?_⟩
          repeat
            refine go_p (v := ?_) (b := ?_) rfl (.inl ⟨by rfl, ?_⟩) ?_ ?_
            rotate_left 2
            · intro w'; go_simp; with_reducible rfl
            · simp only [Act.put, List.setIfInBounds_toArray, List.set_cons_zero, List.set_cons_succ, i64_w, i32_w, hw]; rfl
          refine go_done ?_
          have HB := Lib.hid hS3
          clear hS3 hS2 hb3
          cases he : (encB c == (s.extract p (p + 3)).toList) with
          | true =>
            have HX := Lib.hid (HY.out (HO.out.trans he))
            go_wp2_with fail
            go_ret2
            exact ⟨by unfold unV; rw [HX.out]; rfl, HB.out⟩
          | false =>
            have HX := Lib.hid (HN.out (HO.out.trans he))
            go_wp2_with fail
            go_ret2
            exact ⟨by unfold unV; rw [HX.out]; rfl, HB.out⟩
  · have HX := Lib.hid (HU.out.no (fun e => hn e.1))
    have k1 : ((s.size : Int) - (p : Int) < 3) := by omega
    clear HU HA hn
    go_enter Tryz.func139, Tryz.ntmps139
    go_wp2_with fail
    go_ret2
    exact ⟨by unfold unV; rw [HX.out]; rfl, Below.refl _ _⟩
set_option maxHeartbeats 4000000 in
set_option maxRecDepth 100000 in
theorem rnext_4 (s : ByteArray) (p : Nat) (w : World) (hs : s.size ≤ 140737488351232) (hp : p < s.size) (h : 240 ≤ Lx.byt s p ∧ Lx.byt s p < 248) (hU : UnN s p 4 (Lx.byt s p - 240)) :
    Calls Tryz.prog 139 #[.string s, .int .i64 p] w fun e w' => e = .returned (unV s p) ∧ Below w.heap.size w w' := by
  have h0 : (0 : Int) ≤ (p : Int) := by omega
  have hpp : (p : Int) ≤ 140737488351232 := by omega
  have hb := (byt_at s p hp).symm
  have hlt := byt_lt s p
  have i1 : ¬ s.size ≤ p := by omega
  have i2 : (p : Int) < (s.size : Int) := by omega
  have HA := Lib.hid (acc_lim s p (Lx.byt s p - 240) 8 (by omega))
  have HU := Lib.hid hU
  obtain ⟨b, hbb⟩ : ∃ b, b = Lx.byt s p := ⟨_, rfl⟩
  rw [← hbb] at hb h hlt HU HA
  have j1 : ¬ (b : Int) < 128 := by omega
  have j2 : 192 ≤ (b : Int) := by omega
  have j3 : ¬ (b : Int) < 224 := by omega
  have j4 : 224 ≤ (b : Int) := by omega
  have j5 : ¬ (b : Int) < 240 := by omega
  have j6 : 240 ≤ (b : Int) := by omega
  have j7 : (b : Int) < 248 := by omega
  have j8 : (b : Int) ≤ 255 := by omega
  have j9 : ((b : Int) - 240) = ((b - 240 : Nat) : Int) := by omega
  generalize b - 240 = c0 at *
  clear h hlt hbb hU
  by_cases hn : p + 4 ≤ s.size
  · have k1 : ¬ ((s.size : Int) - (p : Int) < 4) := by omega
    go_enter Tryz.func139, Tryz.ntmps139
    go_wp2_with fail
    go_loop [7, 8] (fun a7 a8 => ∃ k : Nat, 1 ≤ k ∧ k ≤ 4 ∧ a8 = .int .i64 k ∧ a7 = .int .i64 ((acc s p c0 (k - 1) : Nat) : Int) ∧ Hid (cnt s p k)) (fun _ a8 => 4 - (intOf a8).toNat)
    case atStart => exact ⟨1, by omega, by omega, rfl, rfl, Lib.hid (fun j h1 h2 => by omega)⟩
    case round =>
      obtain ⟨k, hk1, hk2, rfl, rfl, HC⟩ := hrel
      obtain ⟨j, rfl⟩ : ∃ j, k = j + 1 := ⟨k - 1, by omega⟩
      have HL := HA.out j HC.out
      rw [Nat.add_sub_cancel]
      by_cases hk : j + 1 < 4
      · have q1 : p + (j + 1) < s.size := by omega
        have q2 : acc s p c0 j ≤ 32767 := by
          have : j = 0 ∨ j = 1 ∨ j = 2 := by omega
          rcases this with rfl | rfl | rfl <;> simp [Nat.pow] at HL <;> omega
        have q3 := (byt_at s (p + (j + 1)) q1).symm
        have q4 := byt_lt s (p + (j + 1))
        have q5 : (j : Int) + 1 < 4 := by omega
        have q6 : (p : Int) + ((j : Int) + 1) < (s.size : Int) := by omega
        have HY := Lib.hid (show acc s p c0 (j + 1) = 64 * acc s p c0 j + (Lx.byt s (p + (j + 1)) - 128) from rfl)
        have HZ := Lib.hid (show 128 ≤ Lx.byt s (p + (j + 1)) ∧ Lx.byt s (p + (j + 1)) ≤ 191 → cnt s p (j + 2) from fun e i h1 h2 => by
          rcases Nat.lt_or_ge i (j + 1) with h | h
          · exact HC.out i h1 h
          · rw [show i = j + 1 by omega]; exact e)
        have HN := Lib.hid (show ¬ (128 ≤ Lx.byt s (p + (j + 1)) ∧ Lx.byt s (p + (j + 1)) ≤ 191) → Lx.unit s true p = (-1, 1) from fun e => HU.out.no fun h => e (h.2.1 (j + 1) (by omega) hk))
        obtain ⟨d, hd⟩ : ∃ d, d = Lx.byt s (p + (j + 1)) := ⟨_, rfl⟩
        obtain ⟨A, hA⟩ : ∃ A, A = acc s p c0 j := ⟨_, rfl⟩
        rw [← hd] at q3 q4 HY HZ HN
        rw [← hA] at q2 HY ⊢
        clear HL hd hA HU HC HA
        by_cases c1 : d < 128
        · have r1 : (d : Int) < 128 := by omega
          have HX := Lib.hid (HN.out (by omega))
          clear HN HZ HY c1 hn
          go_wp2_with fail
          go_ret2
          exact ⟨by unfold unV; rw [HX.out]; rfl, Below.refl _ _⟩
        · have r1 : ¬ (d : Int) < 128 := by omega
          by_cases c2 : 191 < d
          · have r2 : 191 < (d : Int) := by omega
            have r3 : (d : Int) ≤ 255 := by omega
            have HX := Lib.hid (HN.out (by omega))
            clear HN HZ HY c1 c2 hn
            go_wp2_with fail
            go_ret2
            exact ⟨by unfold unV; rw [HX.out]; rfl, Below.refl _ _⟩
          · have r2 : ¬ 191 < (d : Int) := by omega
            have HX := Lib.hid (HZ.out (by omega))
            clear HN HZ hn
            go_wp2_with fail
            go_round
            case rel => exact ⟨j + 2, by omega, by omega, by go_num, by rw [Nat.add_sub_cancel (n := j + 1) (m := 1), HY.out]; exact congrArg (Value.int .i64) (by omega), HX⟩
            case measure => simp [intOf]; omega
      · obtain rfl : j = 3 := by omega
        have q5 : ¬ ((3 : Nat) : Int) + 1 < 4 := by omega
        have q2 : acc s p c0 3 ≤ 2097151 := by simp [Nat.pow] at HL; omega
        have HY := Lib.hid (HU.out.yes hn HC.out)
        have HN := Lib.hid (show okC s p 4 (acc s p c0 3) = false → Lx.unit s true p = (-1, 1) from fun e => HU.out.no fun h => by rw [show acc s p c0 (4 - 1) = acc s p c0 3 from rfl, e] at h; cases h.2.2)
        rw [show acc s p c0 (4 - 1) = acc s p c0 3 from rfl] at HY
        generalize acc s p c0 3 = c at *
        have HI := Lib.hid (is_calls c)
        have HT := Lib.hid (text_calls c q2)
        clear HU HA HC HL
        go_wp2_with fail
        refine (HI.out _).mono ?_
        rintro e w ⟨rfl, hw⟩
        subst hw
        cases hi : isC c
        · have HX := Lib.hid (HN.out (by unfold okC; rw [hi]; rfl))
          clear hi HN HY HI
          go_wp2_with fail
          refine go_start (fun w' => Below w.heap.size w w') [] [.p 0, .p 1, .p 2, .p 3, .p 5, .p 6, .p 7, .p 8, .p 9, .p 10, .p 4, .p 11, .p 12] (by kernel_rfl) (by kernel_rfl) (fun c d v a w h => by cases d <;> exact h) ((Below.refl _ w).drew) (fun w2 hS2 => ?_)
          repeat first
          | refine go_p (v := ?_) (b := ?_) rfl (.inl ⟨by rfl, ?_⟩) ?_ ?_
            rotate_left 2
            · intro w'; go_simp; with_reducible rfl
            · simp only [Act.put, pu_, pz_, ps_, i64_w, i32_w]; rfl
          | refine go_p (v := undef) (b := ?_) rfl (.inr ⟨by rfl, rfl⟩) ?_ ?_
            rotate_left
            · simp only [Act.put, pu_, pz_, ps_, i64_w, i32_w]; rfl
          refine go_done ?_
          have HB := Lib.hid hS2
          clear hS2
          go_wp2_with fail
          go_ret2
          exact ⟨by unfold unV; rw [HX.out]; rfl, HB.out⟩
        · have hpe : ((p : Int) + 4).toNat = p + 4 := by omega
          have hw : wrap64 ((p : Int) + 4) = (p : Int) + 4 := w64_in _ (by omega) (by omega)
          have r1 : (p : Int) ≤ (p : Int) + 4 := by omega
          have r2 : (p : Int) + 4 ≤ (s.size : Int) := by omega
          have HO := Lib.hid (show okC s p 4 c = (encB c == (s.extract p (p + 4)).toList) by unfold okC; rw [hi]; rfl)
          clear hi HI
          go_wp2_with fail
          refine go_start (fun w' => Below w.heap.size w w') [] [.p 0, .p 1, .p 2, .p 3, .p 5, .p 6, .p 7, .p 8, .p 9, .p 10, .o 4, .p 11, .p 12] (by kernel_rfl) (by kernel_rfl) (fun c d v a w h => by cases d <;> exact h) ((Below.refl _ w).drew) (fun w2 hS2 => ?_)
          repeat
            refine go_p (v := ?_) (b := ?_) rfl (.inl ⟨by rfl, ?_⟩) ?_ ?_
            rotate_left 2
            · intro w'; go_simp; with_reducible rfl
            · simp only [Act.put, List.setIfInBounds_toArray, List.set_cons_zero, List.set_cons_succ, i64_w, i32_w, hw]; rfl
          refine go_call rfl (by rfl) Tryz.func185 (by kernel_rfl) rfl (by simp only [List.map_toArray, List.map_cons, List.map_nil]; rfl) (HT.out w2) ?_
          rintro e w3 ⟨rfl, hb3⟩
          have hS3 : Below w.heap.size w w3 := hS2.trans (hb3.mono hS2.size)
          refine ⟨_, _, rfl, hS3, (by simp only [Act.put, List.setIfInBounds_toArray, List.set_cons_zero, List.set_cons_succ]; rfl), ?_⟩
          repeat
            refine go_p (v := ?_) (b := ?_) rfl (.inl ⟨by rfl, ?_⟩) ?_ ?_
            rotate_left 2
            · intro w'; go_simp; with_reducible rfl
            · simp only [Act.put, List.setIfInBounds_toArray, List.set_cons_zero, List.set_cons_succ, i64_w, i32_w, hw]; rfl
          refine go_done ?_
          have HB := Lib.hid hS3
          clear hS3 hS2 hb3
          cases he : (encB c == (s.extract p (p + 4)).toList) with
          | true =>
            have HX := Lib.hid (HY.out (HO.out.trans he))
            go_wp2_with fail
            go_ret2
            exact ⟨by unfold unV; rw [HX.out]; rfl, HB.out⟩
          | false =>
            have HX := Lib.hid (HN.out (HO.out.trans he))
            go_wp2_with fail
            go_ret2
            exact ⟨by unfold unV; rw [HX.out]; rfl, HB.out⟩
  · have HX := Lib.hid (HU.out.no (fun e => hn e.1))
    have k1 : ((s.size : Int) - (p : Int) < 4) := by omega
    clear HU HA hn
    go_enter Tryz.func139, Tryz.ntmps139
    go_wp2_with fail
    go_ret2
    exact ⟨by unfold unV; rw [HX.out]; rfl, Below.refl _ _⟩
end Go.Proofs.YtamhkdlcoghdbaaGreatDoor.PCls
