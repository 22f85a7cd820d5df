/- Put together (wip/tools/pack.py): QLn, QWp, QGOne, QLOne. -/
import Derived.Test.YtamhkdlcoghdbaaGreatDoorKMQStr
import Derived.Test.YtamhkdlcoghdbaaGreatDoorKMQZLOne
/- Out of Ln (wip/tools/prune2.py): the declarations alone that the texts of the trees name. -/
namespace Go.Proofs.YtamhkdlcoghdbaaGreatDoor.PCls
open Go.RowKit Go.Shelf Go.Proofs.YtamhkdlcoghdbaaGreatDoorW.PrintWords Go.Proofs.YtamhkdlcoghdbaaGreatDoorW.PrintLast Go.Proofs.YtamhkdlcoghdbaaGreatDoorW.PrintMore
set_option linter.unusedVariables false
set_option linter.unusedSimpArgs false
theorem number_stop (s : ByteArray) (k p : Nat) (n : Int) (h : ¬ (p < s.size ∧ 48 ≤ Lx.byt s p ∧ Lx.byt s p ≤ 57)) : Lx.number s k p n = (n, p) := by
 cases k with
 | zero => rfl
 | succ k => unfold Lx.number; rw [if_neg h]
set_option maxHeartbeats 4000000 in
set_option maxRecDepth 100000 in
theorem number_calls (W : World) (B p : Nat) (s : ByteArray) (c0 : W.cell? ⟨B, 0, none⟩ = some (.string s)) (hs : s.size ≤ 2000) (hp : p ≤ 5000) :
  Calls Tryz.prog 210 #[.pointer (some ⟨B, 0, none⟩), .int .i64 p] W fun e w' => e = .returned (.tuple #[.int .i64 (Lx.number s (s.size + 1) p (-1)).1, .int .i64 (Lx.number s (s.size + 1) p (-1)).2]) ∧ w' = W := by
 obtain ⟨R, hR⟩ : ∃ R, R = Lx.number s (s.size + 1) p (-1) := ⟨_, rfl⟩
 rw [← hR]
 have HR := Lib.hid hR
 clear hR
 go_enter Tryz.func210, Tryz.ntmps210
 go_wp2_with fail
 go_loop [1, 6] (fun a n => ∃ (q k : Nat) (m : Int), a = .int .i64 q ∧ n = .int .i64 m ∧ q ≤ 5000 ∧ s.size < q + k ∧ -1 ≤ m ∧ m ≤ 256 ∧ Hid (R = Lx.number s k q m)) (fun a _ => s.size - (intOf a).toNat)
 case atStart => exact ⟨p, s.size + 1, -1, rfl, rfl, hp, by omega, by omega, by omega, HR⟩
 case round =>
  obtain ⟨q, k, m, rfl, rfl, hq, hk, hm0, hm1, HQ⟩ := hrel
  by_cases hlt : q < s.size
  ·have hi0 : (0 : Int) ≤ (q : Int) := by omega
   have hi1 : (q : Int) < (s.size : Int) := by omega
   have hbd := s[q].toNat_lt
   have hbe := byt_at s q hlt
   by_cases hd : 48 ≤ s[q].toNat ∧ s[q].toNat ≤ 57
   ·obtain ⟨hd1, hd2⟩ := hd
    obtain ⟨k, rfl⟩ : ∃ j, k = j + 1 := ⟨k - 1, by omega⟩
    have HX := Lib.hid (show R = Lx.number s k (q + 1) (min (max m 0 * 10 + ((s[q].toNat : Int) - 48)) 256) by
     rw [HQ.out]
     conv => lhs; unfold Lx.number
     rw [if_pos (by omega), hbe])
    have h1 : decide ((48 : Int) ≤ (s[q].toNat : Int)) = true := decide_eq_true (by omega)
    have h2 : decide ((s[q].toNat : Int) ≤ 57) = true := decide_eq_true (by omega)
    clear hbe
    go_wp2_with fail
    go_round
    case rel => exact ⟨q + 1, k, _, by go_num, rfl, by omega, by omega, by omega, by omega, HX⟩
    case measure => simp [intOf]; omega
   ·have HX := Lib.hid (show R = (m, q) by rw [HQ.out]; exact number_stop s k q m (by rw [hbe]; omega))
    clear hbe
    by_cases hd1 : 48 ≤ s[q].toNat
    ·have h1 : decide ((48 : Int) ≤ (s[q].toNat : Int)) = true := decide_eq_true (by omega)
     have h2 : decide ((s[q].toNat : Int) ≤ 57) = false := decide_eq_false (by omega)
     clear hd hd1 hbd
     go_wp2_with fail
     go_ret2
     exact ⟨by rw [HX.out]; rfl, rfl⟩
    ·have h1 : decide ((48 : Int) ≤ (s[q].toNat : Int)) = false := decide_eq_false (by omega)
     clear hd hd1 hbd
     go_wp2_with fail
     go_ret2
     exact ⟨by rw [HX.out]; rfl, rfl⟩
  ·have HX := Lib.hid (show R = (m, q) by rw [HQ.out]; exact number_stop s k q m (by omega))
   have h2 : s.size ≤ q := by omega
   go_wp2_with fail
   go_ret2
   exact ⟨by rw [HX.out]; rfl, rfl⟩
theorem number_le (s : ByteArray) : ∀ (k p : Nat) (n : Int), -1 ≤ n → n ≤ 256 → p ≤ (Lx.number s k p n).2 ∧ ((Lx.number s k p n).2 ≤ s.size ∨ (Lx.number s k p n).2 = p) ∧ -1 ≤ (Lx.number s k p n).1 ∧ (Lx.number s k p n).1 ≤ 256 ∧ (0 ≤ n → 0 ≤ (Lx.number s k p n).1)
 | 0, p, n, h0, h1 => by simp [Lx.number]; omega
 | k + 1, p, n, h0, h1 => by
  by_cases h : p < s.size ∧ 48 ≤ Lx.byt s p ∧ Lx.byt s p ≤ 57
  ·have e : Lx.number s (k + 1) p n = Lx.number s k (p + 1) (min (max n 0 * 10 + ((Lx.byt s p : Int) - 48)) 256) := by
    conv => lhs; unfold Lx.number
    rw [if_pos h]
   have ih := number_le s k (p + 1) (min (max n 0 * 10 + ((Lx.byt s p : Int) - 48)) 256) (by omega) (by omega)
   rw [e]
   refine ⟨by omega, .inl ?_, ih.2.2.1, ih.2.2.2.1, fun _ => ih.2.2.2.2 (by omega)⟩
   rcases ih.2.1 with h' | h' <;> omega
  ·rw [number_stop s (k + 1) p n h]
   exact ⟨Nat.le_refl _, .inr rfl, h0, h1, id⟩
theorem interval_eq {s : ByteArray} {q p a2 b2 : Nat} {a1 b1 : Int} (ha : (a1, a2) = Lx.number s (s.size + 1) p (-1)) (hb : (if 0 ≤ a1 ∧ Lx.here s a2 [44] = true then Lx.number s (s.size + 1) (a2 + 1) (-1) else (a1, a2)) = (b1, b2)) :
  Lx.interval s q p = if a1 < 0 ∨ Lx.here s b2 [92, 125] = false then .error (36, (q : Int)) else if 255 < a1 ∨ 255 < b1 ∨ (0 ≤ b1 ∧ b1 < a1) then .error (37, (q : Int)) else .ok (a1, b1, b2 + 2) := by
 unfold Lx.interval
 rw [← ha]
 simp only
 rw [hb]
/-- what a function that may give up tells -/
def Tells {α : Type} (w w' : World) (e : Ending) (r : Except Er α) (P : α → Prop) : Prop := Below w.heap.size w w' ∧ match r with
 | .error x => Bad w.heap.size w' e x.1 x.2
 | .ok a => P a
theorem Tells.err {α : Type} {w w' : World} {e : Ending} {r : Except Er α} {P : α → Prop} {x : Er} (h : r = .error x) (hb : Below w.heap.size w w') (hx : Bad w.heap.size w' e x.1 x.2) : Tells w w' e r P := by rw [h]; exact ⟨hb, hx⟩
theorem Tells.ok {α : Type} {w w' : World} {e : Ending} {r : Except Er α} {P : α → Prop} {a : α} (h : r = .ok a) (hb : Below w.heap.size w w') (hx : P a) : Tells w w' e r P := by rw [h]; exact ⟨hb, hx⟩
set_option maxHeartbeats 8000000 in
set_option maxRecDepth 100000 in
theorem interval_calls (W : World) (B p q : Nat) (s : ByteArray) (chars fold : Bool) (V : Value) (h : Sc W B s chars fold q V) (hs : s.size ≤ 2000) (hp : p ≤ 4000) :
  Calls Tryz.prog 191 #[.pointer (some ⟨B, 0, none⟩), .int .i64 p] W fun e w' => Tells W w' e (Lx.interval s q p) fun r => e = .returned (.tuple #[.int .i64 r.1, .int .i64 r.2.1, .int .i64 r.2.2]) ∧ w' = W := by
 have c0 := h.c0
 have c3 := h.c3
 clear h
 have HN := Lib.hid (fun p hp => number_calls W B p s c0 hs hp)
 have HH := Lib.hid (fun p t => here_calls W B p s t c0 (by omega))
 obtain ⟨a, ha⟩ : ∃ a, a = Lx.number s (s.size + 1) p (-1) := ⟨_, rfl⟩
 have hal := number_le s (s.size + 1) p (-1) (by omega) (by omega)
 rw [← ha] at hal
 have HA := Lib.hid ha
 clear ha
 obtain ⟨a1, a2⟩ := a
 simp only at hal
 obtain ⟨l1, l2, l3, l4, _⟩ := hal
 have hi0 : (0 : Int) ≤ (a2 : Int) := by omega
 have hi1 : (a2 : Int) ≤ 5000 := by omega
 have hA2 : a2 ≤ 4000 := by omega
 by_cases h0 : a1 < 0
 ·have HX := Lib.hid (show Lx.interval s q p = .error (36, (q : Int)) by
   unfold Lx.interval
   simp only [← HA.out]
   rw [if_pos (.inl h0)])
  have h0' : ¬ 0 ≤ a1 := by omega
  go_enter Tryz.func191, Tryz.ntmps191
  go_wp2_with fail
  refine (HN.out p (by omega)).mono ?_
  rw [← HA.out]
  rintro e w' ⟨rfl, rfl⟩
  clear HN HA
  go_wp2_with fail
  refine (fail_calls _ _ _).mono ?_
  rintro e w2 ⟨⟨g, rfl, hg⟩, hb⟩
  exact ⟨rfl, Tells.err HX.out hb ⟨g, rfl, hg⟩⟩
 ·have h0' : 0 ≤ a1 := by omega
  by_cases hc : Lx.here s a2 [44] = true
  ·obtain ⟨b, hb⟩ : ∃ b, b = Lx.number s (s.size + 1) (a2 + 1) (-1) := ⟨_, rfl⟩
   have hbl := number_le s (s.size + 1) (a2 + 1) (-1) (by omega) (by omega)
   rw [← hb] at hbl
   obtain ⟨b1, b2⟩ := b
   simp only at hbl
   obtain ⟨m1, m2, m3, m4, _⟩ := hbl
   have HB := Lib.hid hb
   have HI := Lib.hid (interval_eq (q := q) HA.out (b1 := b1) (b2 := b2) (by rw [if_pos ⟨h0', hc⟩, ← hb]))
   have HC := Lib.hid hc
   clear hb hc
   have hj0 : (0 : Int) ≤ (b2 : Int) := by omega
   have hj1 : (b2 : Int) ≤ 5000 := by omega
   have hB2 : b2 ≤ 5000 := by omega
   go_enter Tryz.func191, Tryz.ntmps191
   go_wp2_with fail
   refine (HN.out p (by omega)).mono ?_
   rw [← HA.out]
   rintro e w' ⟨rfl, rfl⟩
   go_wp2_with fail
   refine (HH.out a2 ⟨#[44]⟩).mono ?_
   rw [show Lx.here s a2 (⟨#[44]⟩ : ByteArray).data.toList = true from HC.out]
   rintro e w2 ⟨rfl, rfl⟩
   go_wp2_with fail
   refine (HN.out (a2 + 1) (by omega)).mono ?_
   rw [← HB.out]
   rintro e w3 ⟨rfl, rfl⟩
   go_wp2_with fail
   by_cases hd : Lx.here s b2 [92, 125] = true
   ·refine (HH.out b2 ⟨#[92, 125]⟩).mono ?_
    rw [show Lx.here s b2 (⟨#[92, 125]⟩ : ByteArray).data.toList = true from hd]
    rintro e w4 ⟨rfl, rfl⟩
    by_cases hcase : 255 < a1 ∨ 255 < b1 ∨ (0 ≤ b1 ∧ b1 < a1)
    ·have HE := Lib.hid (show Lx.interval s q p = .error (37, (q : Int)) by rw [HI.out, if_neg (by rw [hd]; simp; omega), if_pos hcase])
     have hc3 : 255 < a1 ∨ (¬ 255 < a1 ∧ 255 < b1) ∨ (¬ 255 < a1 ∧ ¬ 255 < b1 ∧ 0 ≤ b1 ∧ b1 < a1) := by omega
     clear hcase hd
     rcases hc3 with g1 | ⟨g1, g2⟩ | ⟨g1, g2, g3, g4⟩
     all_goals try (exfalso; omega)
     all_goals
      go_wp2_with fail
      refine (fail_calls _ _ _).mono ?_
      rintro e w5 ⟨⟨g, rfl, hg⟩, hb⟩
      exact ⟨rfl, Tells.err HE.out hb ⟨g, rfl, hg⟩⟩
    ·have HE := Lib.hid (show Lx.interval s q p = .ok (a1, b1, b2 + 2) by rw [HI.out, if_neg (by rw [hd]; simp; omega), if_neg hcase])
     have hc3 : (¬ 255 < a1 ∧ ¬ 255 < b1 ∧ ¬ 0 ≤ b1) ∨ (¬ 255 < a1 ∧ ¬ 255 < b1 ∧ 0 ≤ b1 ∧ ¬ b1 < a1) := by omega
     clear hcase hd
     rcases hc3 with ⟨g1, g2, g3⟩ | ⟨g1, g2, g3, g4⟩
     all_goals try (exfalso; omega)
     all_goals
      go_wp2_with fail
      go_ret3
      exact Tells.ok HE.out (Below.refl _ _) ⟨rfl, rfl⟩
   ·have hd' : Lx.here s b2 [92, 125] = false := by simpa using hd
    have HE := Lib.hid (show Lx.interval s q p = .error (36, (q : Int)) by rw [HI.out, if_pos (.inr hd')])
    refine (HH.out b2 ⟨#[92, 125]⟩).mono ?_
    rw [show Lx.here s b2 (⟨#[92, 125]⟩ : ByteArray).data.toList = false from hd']
    rintro e w4 ⟨rfl, rfl⟩
    clear hd hd'
    go_wp2_with fail
    refine (fail_calls _ _ _).mono ?_
    rintro e w5 ⟨⟨g, rfl, hg⟩, hb⟩
    exact ⟨rfl, Tells.err HE.out hb ⟨g, rfl, hg⟩⟩
  ·have HI := Lib.hid (interval_eq (q := q) HA.out (b1 := a1) (b2 := a2) (by rw [if_neg (fun h => hc h.2)]))
   have HC := Lib.hid (show Lx.here s a2 [44] = false by simpa using hc)
   clear hc
   go_enter Tryz.func191, Tryz.ntmps191
   go_wp2_with fail
   refine (HN.out p (by omega)).mono ?_
   rw [← HA.out]
   rintro e w' ⟨rfl, rfl⟩
   go_wp2_with fail
   refine (HH.out a2 ⟨#[44]⟩).mono ?_
   rw [show Lx.here s a2 (⟨#[44]⟩ : ByteArray).data.toList = false from HC.out]
   rintro e w2 ⟨rfl, rfl⟩
   go_wp2_with fail
   by_cases hd : Lx.here s a2 [92, 125] = true
   ·refine (HH.out a2 ⟨#[92, 125]⟩).mono ?_
    rw [show Lx.here s a2 (⟨#[92, 125]⟩ : ByteArray).data.toList = true from hd]
    rintro e w4 ⟨rfl, rfl⟩
    by_cases hcase : 255 < a1 ∨ 255 < a1 ∨ (0 ≤ a1 ∧ a1 < a1)
    ·have HE := Lib.hid (show Lx.interval s q p = .error (37, (q : Int)) by rw [HI.out, if_neg (by rw [hd]; simp; omega), if_pos hcase])
     have hc3 : 255 < a1 ∨ (¬ 255 < a1 ∧ 255 < a1) ∨ (¬ 255 < a1 ∧ ¬ 255 < a1 ∧ 0 ≤ a1 ∧ a1 < a1) := by omega
     clear hcase hd
     rcases hc3 with g1 | ⟨g1, g2⟩ | ⟨g1, g2, g3, g4⟩
     all_goals try (exfalso; omega)
     all_goals
      go_wp2_with fail
      refine (fail_calls _ _ _).mono ?_
      rintro e w5 ⟨⟨g, rfl, hg⟩, hb⟩
      exact ⟨rfl, Tells.err HE.out hb ⟨g, rfl, hg⟩⟩
    ·have HE := Lib.hid (show Lx.interval s q p = .ok (a1, a1, a2 + 2) by rw [HI.out, if_neg (by rw [hd]; simp; omega), if_neg hcase])
     have hc3 : (¬ 255 < a1 ∧ ¬ 255 < a1 ∧ ¬ 0 ≤ a1) ∨ (¬ 255 < a1 ∧ ¬ 255 < a1 ∧ 0 ≤ a1 ∧ ¬ a1 < a1) := by omega
     clear hcase hd
     rcases hc3 with ⟨g1, g2, g3⟩ | ⟨g1, g2, g3, g4⟩
     all_goals try (exfalso; omega)
     all_goals
      go_wp2_with fail
      go_ret3
      exact Tells.ok HE.out (Below.refl _ _) ⟨rfl, rfl⟩
   ·have hd' : Lx.here s a2 [92, 125] = false := by simpa using hd
    have HE := Lib.hid (show Lx.interval s q p = .error (36, (q : Int)) by rw [HI.out, if_pos (.inr hd')])
    refine (HH.out a2 ⟨#[92, 125]⟩).mono ?_
    rw [show Lx.here s a2 (⟨#[92, 125]⟩ : ByteArray).data.toList = false from hd']
    rintro e w4 ⟨rfl, rfl⟩
    clear hd hd'
    go_wp2_with fail
    refine (fail_calls _ _ _).mono ?_
    rintro e w5 ⟨⟨g, rfl, hg⟩, hb⟩
    exact ⟨rfl, Tells.err HE.out hb ⟨g, rfl, hg⟩⟩
end Go.Proofs.YtamhkdlcoghdbaaGreatDoor.PCls
/- Out of Wp (wip/tools/prune2.py): the declarations alone that the texts of the trees name. -/
set_option linter.unusedVariables false
set_option linter.unusedSimpArgs false
namespace Go.Proofs.YtamhkdlcoghdbaaGreatDoorW.PrintWords
open Go.RowKit
section
variable {P : Program} {ops : Array Oper} {rest : List Oper} {o : Oper} {a : Act} {Q : Exit → Act → World → Prop}
end
section
variable {P : Program}
end
section
variable {P : Program} {ops : Array Oper} {rest : List Oper} {o : Oper} {a : Act} {Q : Exit → Act → World → Prop}
end
section
variable {P : Program} {ops : Array Oper} {rest : List Oper} {o : Oper} {a : Act} {Q : Exit → Act → World → Prop}
end
section
variable {P : Program} {ops : Array Oper} {o : Oper} {a : Act} {Q : Exit → Act → World → Prop} {K : Act → World → Prop}
end
section
variable {α : Type} {enc : α → Value} {d : α}
end
section
variable {α : Type} {P : Program} {ops : Array Oper} {rest : List Oper} {o : Oper} {a : Act} {Q : Exit → Act → World → Prop}
end
section
variable {P : Program}
end
section
variable {α : Type} {R R' : α → List Value → Prop} {e : TypeId} {size : Nat} {w w1 : World} {base : Nat} {v : Value} {ps : List α}
end
section
variable {P : Program} {ops : Array Oper} {rest : List Oper} {o : Oper} {a : Act} {Q : Exit → Act → World → Prop} {α : Type} {R : α → List Value → Prop}
end
section
variable {P : Program} {ops : Array Oper} {o : Oper} {a : Act} {Q : Exit → Act → World → Prop} {K : Act → World → Prop} {α : Type} {R : α → List Value → Prop}
end
section
variable {α : Type} {P : Program}
end
section
variable {P : Program} {ops : Array Oper} {rest : List Oper} {o : Oper} {a : Act} {Q : Exit → Act → World → Prop}
end
namespace Kd
section
variable {α : Type} {d : Kd α} {e : Nat} {w w1 : World} {base : Nat} {ok ok' : Nat → Prop} {v : Value} {xs : List α}
end
def string : Kd ByteArray := scalar Value.string (fun _ => rfl)
section
variable {P : Program} {ops : Array Oper} {rest : List Oper} {o : Oper} {a : Act} {Q : Exit → Act → World → Prop} {α : Type}
end
section
variable {P : Program} {ops : Array Oper} {o : Oper} {a : Act} {Q : Exit → Act → World → Prop} {Kc : Act → World → Prop} {α : Type}
end
end Kd
namespace Kd
section
variable {α : Type} {F : Kd α → Kd α} {sz : Nat} {E : List Nat} {hs : ∀ n, (upto F sz E n).sz = sz} {hE : ∀ n q, q ∈ (upto F sz E n).E → q ∈ E}
end
end Kd
namespace Kd
end Kd
namespace Kd
section
variable {α β : Type} {d : Kd α} {d' : Kd β} {e e' : Nat} {w w1 W : World} {base b b' : Nat} {ok ok' okv oku : Nat → Prop} {v u : Value} {xs : List α} {ys : List β}
end
section
variable {w W : World} {A : Option Addr} {n : Nat}
variable {α : Type} {enc : α → Value} {h1 : ∀ x, (enc x).oneCell' = true} {e base g cap : Nat} {ok : Nat → Prop} {xs : List α}
end
section
variable {P : Program} {ops : Array Oper} {rest : List Oper} {o : Oper} {a : Act} {Q : Exit → Act → World → Prop}
variable {α : Type}
end
end Kd
section
variable {P : Program}
end
section
variable {w w1 : World} {base n size : Nat} {e : TypeId} {v : Value} {xs : List Value}
end
section
variable {P : Program}
end
namespace Kd
section
variable {α : Type} {d : Kd α} {e : Nat} {w w1 W : World} {base : Nat} {ok ok' : Nat → Prop} {v : Value} {xs : List α}
end
section
variable {P : Program} {ops : Array Oper} {rest : List Oper} {o : Oper} {a : Act} {Q' : Exit → Act → World → Prop} {Kc : Act → World → Prop} {α : Type}
end
end Kd
namespace Kd
section
variable {α : Type} {d : Kd α} {e e' : Nat} {w w1 W : World} {base : Nat} {ok : Nat → Prop} {u v : Value} {xs : List α}
end
end Kd
namespace Kd
section
variable {α : Type} {d : Kd α} {e base g n cap : Nat} {ok okp : Nat → Prop} {W : World} {xs : List α}
end
end Kd
namespace Kd
section
variable {α : Type} {F : Kd α → Kd α} {sz : Nat} {E : List Nat} {hs : ∀ n, (upto F sz E n).sz = sz} {hE : ∀ n q, q ∈ (upto F sz E n).E → q ∈ E}
end
end Kd
namespace Kd
section
variable {P : Program} {ops : Array Oper} {rest : List Oper} {o : Oper} {a : Act} {Q : Exit → Act → World → Prop} {α : Type}
end
end Kd
namespace Kd
section
variable {P : Program} {ops : Array Oper} {rest : List Oper} {o : Oper} {a : Act} {Q : Exit → Act → World → Prop} {α : Type}
end
end Kd
namespace Kd
section
variable {α : Type} {k : Kd α} {w : World} {A : Option Addr} {xs : List α} {m c : Nat}
end
end Kd
section
variable {P : Program}
end
namespace Kd
section
variable {α β : Type} {d : Kd α} {d' : Kd β} {e e' base base' n : Nat} {ok ok' : Nat → Prop} {w W w1 W1 : World} {v u : Value} {xs : List α} {ys : List β} {A : Option Addr} {c : Nat}
end
section
variable {α : Type} {enc : α → Value} {h1 : ∀ x, (enc x).oneCell' = true} {w W : World} {A : Option Addr} {n g : Nat} {xs : List α}
end
end Kd
namespace Kd
section
variable {α : Type} {d : Kd α} {e base g : Nat} {ok : Nat → Prop} {w w1 : World} {v : Value} {xs : List α} {o : Obj}
end
end Kd
section
variable {P : Program} {ops : Array Oper} {rest : List Oper} {o : Oper} {a : Act} {Q : Exit → Act → World → Prop}
end
namespace Kd
section
variable {α : Type} {enc : α → Value} {h1 : ∀ x, (enc x).oneCell' = true} {e base g n cap : Nat} {ok : Nat → Prop} {W : World} {xs : List α}
end
end Kd
section
variable {P : Program} {ops : Array Oper} {rest : List Oper} {o : Oper} {a : Act} {Q : Exit → Act → World → Prop}
end
namespace Kd
section
variable {α : Type} {enc : α → Value} {h1 : ∀ x, (enc x).oneCell' = true} {e base g n cap : Nat} {ok : Nat → Prop} {W : World} {xs : List α}
end
end Kd
section
variable {P : Program} {ops : Array Oper} {rest : List Oper} {o : Oper} {a : Act} {Q : Exit → Act → World → Prop} {W : World}
end
section
variable {P : Program} {ops : Array Oper} {o : Oper} {a : Act} {Q : Exit → Act → World → Prop} {Kc : Act → World → Prop}
namespace Kd
variable {α : Type}
end Kd
end
section
variable {P : Program} {tmps : Array Value} {w : World}
end
namespace Kd
section
variable {P : Program} {α : Type}
end
section
variable {P : Program} {ops : Array Oper} {rest : List Oper} {o : Oper} {a : Act} {Q : Exit → Act → World → Prop} {Kc : Act → World → Prop} {α : Type}
end
end Kd
end Go.Proofs.YtamhkdlcoghdbaaGreatDoorW.PrintWords
/-
  PRINTED WORDS, second file: A REGION THAT DRAWS ITS ORDER, WALKED BY HAND, where its last store writes what its own loads read ('x.f = append(x.f, f(i))'). Plain theorems; no macro, no elab. A claim may hold it (turn the namespace's name).
  A load may be taken first in every world that meets S; behind the operations of ds nothing is shown; sound because each of ds waits for what is taken (Region.lastB). The kernel checks it.
  By an AI agent of Go's test side, Mon Nov 16 2026. No person has read it.
-/
namespace Go.Proofs.YtamhkdlcoghdbaaGreatDoorW.PrintLast
section
variable {P : Program} {ops : Array Oper} {Q : Exit → Act → World → Prop} {md : Region.Mode} {S : World → Prop} {ds : List Nat}
end
section
variable {P : Program} {ops : Array Oper} {Q : Exit → Act → World → Prop} {md : Region.Mode} {S : World → Prop} {ds : List Nat}
end
end Go.Proofs.YtamhkdlcoghdbaaGreatDoorW.PrintLast
namespace Go.Proofs.YtamhkdlcoghdbaaGreatDoorW.PrintLast
open Go.Proofs.YtamhkdlcoghdbaaGreatDoorW.PrintWords (Aside0)
section
variable {md : Region.Mode} {ops : Array Oper} {T : Bool × List (List Nat × List Nat)} {l l' li lj lk : Array Bool} {ds : List Nat} {i j k : Nat}
end
end Go.Proofs.YtamhkdlcoghdbaaGreatDoorW.PrintLast
namespace Go.Proofs.YtamhkdlcoghdbaaGreatDoorW.PrintLast
section
variable {P : Program} {ops : Array Oper} {Q : Exit → Act → World → Prop} {md : Region.Mode} {S : World → Prop} {ds : List Nat} {T : Bool × List (List Nat × List Nat)}
end
end Go.Proofs.YtamhkdlcoghdbaaGreatDoorW.PrintLast
namespace Go.Proofs.YtamhkdlcoghdbaaGreatDoorW.PrintWords
open Go.RowKit
namespace Kd
section
variable {α : Type} {d : Kd α} {e base g o n cap : Nat} {ok okp : Nat → Prop} {w W : World} {v : Value} {xs : List α}
end
section
variable {α : Type} {enc : α → Value} {h1 : ∀ x, (enc x).oneCell' = true} {e base g o n cap : Nat} {ok : Nat → Prop} {W : World} {xs : List α}
end
end Kd
end Go.Proofs.YtamhkdlcoghdbaaGreatDoorW.PrintWords
/-! ### 40. Elements whose inner rows lie apart: what is stored into one says nothing of the others.
   S: as R, with an owner function f (block to element's index). H: as S with a hole: of element i its cells alone are told, its blocks are oki. -/
namespace Go.Proofs.YtamhkdlcoghdbaaGreatDoorW.PrintWords
open Go.RowKit
namespace Kd
section
variable {α β : Type} {d : Kd α} {d' : Kd β} {e e' : Nat} {w w1 W : World} {base b : Nat} {ok ok' okv oku : Nat → Prop} {u v : Value} {xs : List α} {ys : List β}
end
section
variable {α β : Type} {d : Kd α} {d' : Kd β} {e e' g : Nat} {w w1 W : World} {base b : Nat} {ok ok' okv oku : Nat → Prop} {u v : Value} {xs : List α} {ys : List β}
end
section
open Classical in
variable {P : Program} {ops : Array Oper} {rest : List Oper} {o : Oper} {a : Act} {Q : Exit → Act → World → Prop} {Kc : Act → World → Prop} {α : Type}
end
section
variable {α β : Type} {d : Kd α} {e e' g n cap : Nat} {w w1 W : World} {base : Nat} {ok ok' oki okp : Nat → Prop} {u v : Value} {xs : List α} {i : Int} {c : List Value}
open Classical in
end
section
variable {P : Program} {ops : Array Oper} {rest : List Oper} {o : Oper} {a : Act} {Q : Exit → Act → World → Prop} {α : Type}
end
end Kd
end Go.Proofs.YtamhkdlcoghdbaaGreatDoorW.PrintWords
namespace Go.Proofs.YtamhkdlcoghdbaaGreatDoorW.PrintWords
open Go.RowKit
namespace Kd
section
variable {α : Type} {n : Nat} {d : Kd α} {hs : 0 < d.sz} {w : World} {base : Nat} {ok : Nat → Prop} {xs : List α} {cs : List Value}
end
section
variable {α : Type} {n : Nat} {enc : α → Value} {h1 : ∀ x, (enc x).oneCell' = true} {hs : 0 < (scalar enc h1).sz} {w : World} {base : Nat} {ok : Nat → Prop} {xs : List α} {cs : List Value}
end
end Kd
end Go.Proofs.YtamhkdlcoghdbaaGreatDoorW.PrintWords
namespace Go.Proofs.YtamhkdlcoghdbaaGreatDoorW.PrintWords
open Go.RowKit
section
variable {P : Program}
end
namespace Kd
section
variable {P : Program} {ops : Array Oper} {rest : List Oper} {o : Oper} {a : Act} {Q : Exit → Act → World → Prop} {Kc : Act → World → Prop} {α : Type}
end
section
variable {α : Type} {d : Kd α} {e : Nat} {w : World} {base : Nat} {ok : Nat → Prop} {v : Value} {xs : List α}
end
section
variable {P : Program} {ops : Array Oper} {rest : List Oper} {o : Oper} {a : Act} {Q : Exit → Act → World → Prop} {Kc : Act → World → Prop} {α : Type}
end
end Kd
end Go.Proofs.YtamhkdlcoghdbaaGreatDoorW.PrintWords
namespace Go.Proofs.YtamhkdlcoghdbaaGreatDoorW.PrintWords
open Go.RowKit
namespace Kd
/-- What a kind reads lies in the blocks: nothing else of the world is looked at. -/
structure Heap {α : Type} (d : Kd α) : Prop where
  K : ∀ {w w1 : World} {x : α} {cs : List Value}, (∀ k, k < w.heap.size → w1.heap[k]? = w.heap[k]?) → d.K w x cs → d.K w1 x cs
theorem Heap.C {α : Type} {d : Kd α} (hd : Heap d) {w w1 : World} {A : Option Addr} {n : Nat} {xs : List α} (hb : ∀ k, k < w.heap.size → w1.heap[k]? = w.heap[k]?) (h : d.C w A n xs) : d.C w1 A n xs :=
  ⟨h.1, h.2.1, fun hn => by
    obtain ⟨ad, e, hc⟩ := h.2.2 hn
    refine ⟨ad, e, fun j p hj => ?_⟩
    obtain ⟨c, hs, hr, hcell⟩ := hc j p hj
    exact ⟨c, hs, hd.K hb hr, fun i u hu => cell_heap hb (hcell i u hu)⟩⟩
section
variable {α : Type} {d : Kd α} {e base g n c : Nat} {ok : Nat → Prop} {w w0 W : World} {A : Option Addr} {xs : List α}
end
end Kd
end Go.Proofs.YtamhkdlcoghdbaaGreatDoorW.PrintWords
namespace Go.Proofs.YtamhkdlcoghdbaaGreatDoorW.PrintWords
open Go.RowKit
section
variable {w W W2 : World} {S S2 S' : Nat → Prop}
end
namespace Kd
section
variable {α : Type} {d : Kd α} {e base n c : Nat} {ok oki S S2 : Nat → Prop} {w w0 W W1 W2 : World} {v : Value} {A : Option Addr} {xs : List α} {i : Int} {cs : List Value}
end
end Kd
end Go.Proofs.YtamhkdlcoghdbaaGreatDoorW.PrintWords
namespace Go.Proofs.YtamhkdlcoghdbaaGreatDoorW.PrintWords
open Go.RowKit
namespace Foot
variable {P Q : World → Prop} {W W1 : World} {ok ok' : Nat → Prop}
end Foot
namespace Kd
section
variable {α β : Type} {d : Kd α} {e base n n' cc g N : Nat} {ok ok' okp S : Nat → Prop} {w w0 w1 W W1 : World} {A A' : Option Addr} {u v v1 : Value} {xs : List α} {xs' : List β} {d' : Kd β} {x : α} {c : List Value}
end
end Kd
end Go.Proofs.YtamhkdlcoghdbaaGreatDoorW.PrintWords
namespace Go.Proofs.YtamhkdlcoghdbaaGreatDoorW.PrintWords
open Go.RowKit
namespace Kd
section
variable {α : Type} {d : Kd α} {e base n cc g : Nat} {ok ok' okp S : Nat → Prop} {w w1 W W1 : World} {A : Option Addr} {u v v1 : Value} {xs : List α} {x : α} {c : List Value}
end
end Kd
end Go.Proofs.YtamhkdlcoghdbaaGreatDoorW.PrintWords
namespace Go.Proofs.YtamhkdlcoghdbaaGreatDoorW.PrintWords
open Go.RowKit
namespace Kd
section
variable {α : Type} {d : Kd α} {W : World} {g n : Nat} {S ok : Nat → Prop} {A : Option Addr} {ad : Addr} {xs : List α}
end
end Kd
end Go.Proofs.YtamhkdlcoghdbaaGreatDoorW.PrintWords
namespace Go.Proofs.YtamhkdlcoghdbaaGreatDoorW.PrintWords
open Go.RowKit
section
variable {w w' u : World} {m B g : Nat} {o : Obj} {row : Option Nat} {S : Nat → Prop} {a : Addr} {v : Value}
end
namespace Kd
section
variable {α : Type} {d : Kd α} {e base n m : Nat} {ok : Nat → Prop} {w w' : World} {v : Value} {A : Option Addr} {xs : List α}
end
end Kd
end Go.Proofs.YtamhkdlcoghdbaaGreatDoorW.PrintWords
namespace Go.Proofs.YtamhkdlcoghdbaaGreatDoorW.PrintWords
open Go.RowKit
section
variable {P : Program} {d : Nat} {xs ys : Array Value} {f : Field} {fs : List Field} {a b : Value} {r s : Bool} {w : World}
end
end Go.Proofs.YtamhkdlcoghdbaaGreatDoorW.PrintWords
namespace Go.Proofs.YtamhkdlcoghdbaaGreatDoorW.PrintWords
end Go.Proofs.YtamhkdlcoghdbaaGreatDoorW.PrintWords
namespace Go.Proofs.YtamhkdlcoghdbaaGreatDoorW.PrintLast
section
variable {P : Program} {ops : Array Oper} {Q : Exit → Act → World → Prop} {md : Region.Mode} {T : Bool × List (List Nat × List Nat)} {B : List Nat} {O : List Nat} {b : Nat → Bool} {i j n : Nat}
end
end Go.Proofs.YtamhkdlcoghdbaaGreatDoorW.PrintLast
namespace Go.Proofs.YtamhkdlcoghdbaaGreatDoorW.PrintWords
open Go.RowKit
end Go.Proofs.YtamhkdlcoghdbaaGreatDoorW.PrintWords
namespace Go.Proofs.YtamhkdlcoghdbaaGreatDoorW.PrintLast
section
variable {ops : Array Oper} {a : Act} {o og : Oper} {g : Nat} {t : Tmp} {u : Bool}
end
end Go.Proofs.YtamhkdlcoghdbaaGreatDoorW.PrintLast
namespace Go.Proofs.YtamhkdlcoghdbaaGreatDoorW.PrintWords
open Go.RowKit
section
variable {P : Program} {ops : Array Oper} {rest : List Oper} {o : Oper} {a : Act} {Q : Exit → Act → World → Prop} {W : World}
end
end Go.Proofs.YtamhkdlcoghdbaaGreatDoorW.PrintWords
namespace Go.Proofs.YtamhkdlcoghdbaaGreatDoorW.PrintWords
open Go.RowKit
namespace Kd
section
variable {α : Type} {d : Kd α} {e base n cap g : Nat} {ok ok' okp : Nat → Prop} {w w1 W : World} {v v1 : Value} {xs ys : List α}
end
section
variable {P : Program} {ops : Array Oper} {rest : List Oper} {o : Oper} {a : Act} {Q : Exit → Act → World → Prop} {Kc : Act → World → Prop} {α : Type}
end
end Kd
end Go.Proofs.YtamhkdlcoghdbaaGreatDoorW.PrintWords
namespace Go.Proofs.YtamhkdlcoghdbaaGreatDoorW.PrintMore
open Go.RowKit Go.Proofs.YtamhkdlcoghdbaaGreatDoorW.PrintWords
namespace Kd
open Go.Proofs.YtamhkdlcoghdbaaGreatDoorW.PrintWords.Kd
end Kd
namespace Kd
open Go.Proofs.YtamhkdlcoghdbaaGreatDoorW.PrintWords.Kd
section
variable {α : Type} {d : Kd α} {e base g N : Nat} {ok : Nat → Prop} {W w1 : World} {u v : Value} {xs : List α}
end
end Kd
end Go.Proofs.YtamhkdlcoghdbaaGreatDoorW.PrintMore
namespace Go.Proofs.YtamhkdlcoghdbaaGreatDoorW.PrintWords
open Go.RowKit
section
variable {P : Program} {ops : Array Oper} {rest : List Oper} {o : Oper} {a : Act} {Q : Exit → Act → World → Prop} {W : World}
end
namespace Kd
section
variable {α : Type} {d : Kd α} {e base : Nat} {ok : Nat → Prop} {W w1 : World} {v : Value} {xs : List α}
end
section
variable {α : Type} {d : Kd α} {e base g n cap : Nat} {ok oki okp : Nat → Prop} {W : World} {xs : List α} {i : Int} {c : List Value}
end
section
variable {α : Type} {d : Kd α} {e base b b' g N : Nat} {ok ok1 : Nat → Prop} {W W2 w1 : World} {u v : Value} {xs ys : List α} {S : Nat → Prop}
end
end Kd
end Go.Proofs.YtamhkdlcoghdbaaGreatDoorW.PrintWords
namespace Go.Proofs.YtamhkdlcoghdbaaGreatDoorW.PrintWords
open Go.RowKit
namespace Kd
section
variable {α β : Type} {d : Kd α} {e base base' n m c g N' lo hi : Nat} {ok ok' S : Nat → Prop} {w W w1 : World} {A : Option Addr} {ad : Addr} {u v v1 : Value} {xs : List α}
end
end Kd
end Go.Proofs.YtamhkdlcoghdbaaGreatDoorW.PrintWords
/- Out of GOne (wip/tools/prune2.py): the declarations alone that the texts of the trees name. -/
namespace Go.Proofs.YtamhkdlcoghdbaaGreatDoor.PCls
open Go.RowKit Go.Proofs.YtamhkdlcoghdbaaGreatDoorW.PrintWords Go.Proofs.YtamhkdlcoghdbaaGreatDoorW.PrintLast Go.Proofs.YtamhkdlcoghdbaaGreatDoorW.PrintMore
set_option linter.unusedVariables false
set_option linter.unusedSimpArgs false
namespace Cls
end Cls
namespace Cls
/-- a range from lo to hi, without what is in a class -/
def cut (hi : Int) : Int → List S64 → List S64
 | lo, [] => [⟨lo, hi⟩]
 | lo, x :: b =>
  if hi < x.f0 then [⟨lo, hi⟩]
  else (if lo < x.f0 then [⟨lo, x.f0 - 1⟩] else []) ++ (if x.f1 < hi then cut hi (x.f1 + 1) b else [])
theorem cut_in (hi : Int) : ∀ (lo : Int) (b : List S64), lo ≤ hi → Can b → (∀ s, s ∈ b → lo ≤ s.f1) → ∀ x, x ∈ cut hi lo b → lo ≤ x.f0 ∧ x.f0 ≤ x.f1 ∧ x.f1 ≤ hi := by
 intro lo b
 induction b generalizing lo with
 | nil => intro h _ _ x hx; simp [cut] at hx; subst hx; exact ⟨Int.le_refl _, h, Int.le_refl _⟩
 | cons s b ih =>
  intro h hb hs x hx
  unfold cut at hx
  have h1 := hs s List.mem_cons_self
  have h2 := can_head hb
  split at hx
  ·simp at hx; subst hx; exact ⟨Int.le_refl _, h, Int.le_refl _⟩
  ·rcases List.mem_append.1 hx with hx | hx
   ·split at hx
    ·simp at hx; subst hx; simp only; omega
    ·simp at hx
   ·split at hx
    ·have := ih (s.f1 + 1) (by omega) (can_tail hb) (fun y hy => by have := can_gap hb y hy; have := (can_tail hb).2 y hy; omega) x hx
     omega
    ·simp at hx
theorem cut_can (hi : Int) : ∀ (lo : Int) (b : List S64), lo ≤ hi → Can b → (∀ s, s ∈ b → lo ≤ s.f1) → Can (cut hi lo b) := by
 intro lo b
 induction b generalizing lo with
 | nil => intro h _ _; simp [cut, Can, h]
 | cons s b ih =>
  intro h hb hs
  unfold cut
  have h1 := hs s List.mem_cons_self
  have h2 := can_head hb
  split
  ·simp [Can, h]
  ·split
   ·rename_i hlt
    split
    ·have hb' : ∀ y, y ∈ b → s.f1 + 1 ≤ y.f1 := fun y hy => by have := can_gap hb y hy; have := (can_tail hb).2 y hy; omega
     have hc := ih (s.f1 + 1) (by omega) (can_tail hb) hb'
     refine ⟨List.pairwise_cons.2 ⟨fun x hx => ?_, hc.1⟩, fun x hx => ?_⟩
     ·have := cut_in hi (s.f1 + 1) b (by omega) (can_tail hb) hb' x hx
      simp only
      omega
     ·rcases List.mem_cons.1 hx with rfl | hx
      ·simp only; omega
      ·exact hc.2 x hx
    ·simp [Can]; omega
   ·split
    ·exact ih (s.f1 + 1) (by omega) (can_tail hb) (fun y hy => by have := can_gap hb y hy; have := (can_tail hb).2 y hy; omega)
    ·exact can_nil
theorem cut_mem (hi : Int) : ∀ (lo : Int) (b : List S64), lo ≤ hi → Can b → (∀ s, s ∈ b → lo ≤ s.f1) → ∀ c, Mem (cut hi lo b) c ↔ (lo ≤ c ∧ c ≤ hi) ∧ ¬ Mem b c := by
 intro lo b
 induction b generalizing lo with
 | nil => intro h _ _ c; simp [cut, mem_cons, mem_nil]
 | cons s b ih =>
  intro h hb hs c
  unfold cut
  have h1 := hs s List.mem_cons_self
  have h2 := can_head hb
  have g : Mem b c → s.f1 + 1 < c := can_beyond hb
  split
  ·rename_i hlt
   simp only [mem_cons, mem_nil, or_false]
   constructor
   ·intro hc
    refine ⟨hc, ?_⟩
    rintro (k | k)
    ·omega
    ·have := g k; omega
   ·exact fun hc => hc.1
  ·rename_i hge
   rw [mem_append, mem_cons s b]
   have e1 : Mem (if lo < s.f0 then [(⟨lo, s.f0 - 1⟩ : S64)] else []) c ↔ lo ≤ c ∧ c < s.f0 := by
    split
    ·simp only [mem_cons, mem_nil, or_false]; omega
    ·simp only [mem_nil, false_iff]; omega
   rw [e1]
   split
   ·rename_i hlt
    rw [ih (s.f1 + 1) (by omega) (can_tail hb) (fun y hy => by have := can_gap hb y hy; have := (can_tail hb).2 y hy; omega) c]
    generalize Mem b c = B at *
    constructor
    ·rintro (k | ⟨k, k2⟩)
     ·refine ⟨by omega, ?_⟩
      rintro (k1 | k1)
      ·omega
      ·have := g k1; omega
     ·refine ⟨by omega, ?_⟩
      rintro (k1 | k1)
      ·omega
      ·exact k2 k1
    ·rintro ⟨k, k2⟩
     by_cases hc : c < s.f0
     ·exact .inl (by omega)
     ·refine .inr ⟨?_, fun k1 => k2 (.inr k1)⟩
      have : ¬ (s.f0 ≤ c ∧ c ≤ s.f1) := fun k1 => k2 (.inl k1)
      omega
   ·rename_i hnl
    simp only [mem_nil, or_false]
    constructor
    ·intro k
     refine ⟨by omega, ?_⟩
     rintro (k1 | k1)
     ·omega
     ·have := g k1; omega
    ·rintro ⟨k, k2⟩
     have : ¬ (s.f0 ≤ c ∧ c ≤ s.f1) := fun k1 => k2 (.inl k1)
     omega
/-- what is in the first alone: each range cut by what of the second doesn't lie ahead of it -/
def less : List S64 → List S64 → List S64
 | [], _ => []
 | r :: a, b => cut r.f1 r.f0 (b.dropWhile fun x => decide (x.f1 < r.f0)) ++ less a (b.dropWhile fun x => decide (x.f1 < r.f0))
theorem drop_can {b : List S64} (lo : Int) (h : Can b) : Can (b.dropWhile fun x => decide (x.f1 < lo)) := by
 have hs := List.dropWhile_sublist (fun x : S64 => decide (x.f1 < lo)) (l := b)
 exact ⟨h.1.sublist hs, fun r hr => h.2 r (hs.subset hr)⟩
theorem drop_from {b : List S64} (lo : Int) (h : Can b) : ∀ s, s ∈ (b.dropWhile fun x => decide (x.f1 < lo)) → lo ≤ s.f1 := by
 induction b with
 | nil => intro s hs; simp at hs
 | cons x b ih =>
  intro s hs
  rw [List.dropWhile_cons] at hs
  split at hs
  ·exact ih (can_tail h) s hs
  ·rename_i hx
   simp at hx
   rcases List.mem_cons.1 hs with rfl | hs
   ·exact hx
   ·have := can_gap h s hs
    have := (can_tail h).2 s hs
    omega
theorem drop_mem {b : List S64} (lo : Int) (h : Can b) (c : Int) (hc : lo ≤ c) : Mem (b.dropWhile fun x => decide (x.f1 < lo)) c ↔ Mem b c := by
 induction b with
 | nil => simp
 | cons x b ih =>
  rw [List.dropWhile_cons]
  split
  ·rename_i hx
   simp at hx
   rw [ih (can_tail h), mem_cons]
   constructor
   ·exact .inr
   ·rintro (k | k)
    ·omega
    ·exact k
  ·rfl
theorem less_spec : ∀ (a b : List S64), Can a → Can b → Can (less a b) ∧ (∀ c, Mem (less a b) c ↔ Mem a c ∧ ¬ Mem b c)
 | [], b, _, _ => ⟨can_nil, fun c => by simp [less, mem_nil]⟩
 | r :: a, b, ha, hb => by
  have hd := drop_can r.f0 hb
  have hf := drop_from r.f0 hb
  have h := less_spec a _ (can_tail ha) hd
  have hr := can_head ha
  have hin := cut_in r.f1 r.f0 _ hr hd hf
  refine ⟨⟨?_, ?_⟩, fun c => ?_⟩
  ·unfold less
   rw [List.pairwise_append]
   refine ⟨(cut_can r.f1 r.f0 _ hr hd hf).1, h.1.1, fun x hx y hy => ?_⟩
   have h1 := hin x hx
   have hy0 := h.1.2 y hy
   have h2 := ((h.2 y.f0).1 ⟨y, hy, Int.le_refl _, hy0⟩).1
   have := can_beyond ha h2
   omega
  ·intro x hx
   unfold less at hx
   rcases List.mem_append.1 hx with hx | hx
   ·exact (hin x hx).2.1
   ·exact h.1.2 x hx
  ·unfold less
   rw [mem_append, cut_mem r.f1 r.f0 _ hr hd hf, h.2, mem_cons]
   constructor
   ·rintro (⟨k, k2⟩ | ⟨k, k2⟩)
    ·exact ⟨.inl k, fun m => k2 ((drop_mem r.f0 hb c k.1).2 m)⟩
    ·have := can_beyond ha k
     exact ⟨.inr k, fun m => k2 ((drop_mem r.f0 hb c (by omega)).2 m)⟩
   ·rintro ⟨k | k, k2⟩
    ·exact .inl ⟨k, fun m => k2 ((drop_mem r.f0 hb c k.1).1 m)⟩
    ·have := can_beyond ha k
     exact .inr ⟨k, fun m => k2 ((drop_mem r.f0 hb c (by omega)).1 m)⟩
end Cls
namespace Cls
/-- the classes that have a name, by its bytes -/
def named (s : List UInt8) : Option (List S64) :=
 if s = [97, 108, 110, 117, 109] then some [⟨48, 57⟩, ⟨65, 90⟩, ⟨97, 122⟩]
 else if s = [97, 108, 112, 104, 97] then some [⟨65, 90⟩, ⟨97, 122⟩]
 else if s = [108, 111, 119, 101, 114] then some [⟨97, 122⟩]
 else if s = [117, 112, 112, 101, 114] then some [⟨65, 90⟩]
 else if s = [120, 100, 105, 103, 105, 116] then some [⟨48, 57⟩, ⟨65, 70⟩, ⟨97, 102⟩]
 else if s = [100, 105, 103, 105, 116] then some [⟨48, 57⟩]
 else if s = [115, 112, 97, 99, 101] then some [⟨9, 13⟩, ⟨32, 32⟩]
 else if s = [98, 108, 97, 110, 107] then some [⟨9, 9⟩, ⟨32, 32⟩]
 else if s = [99, 110, 116, 114, 108] then some [⟨0, 31⟩, ⟨127, 127⟩]
 else if s = [112, 114, 105, 110, 116] then some [⟨32, 126⟩]
 else if s = [103, 114, 97, 112, 104] then some [⟨33, 126⟩]
 else if s = [112, 117, 110, 99, 116] then some [⟨33, 47⟩, ⟨58, 64⟩, ⟨91, 96⟩, ⟨123, 126⟩]
 else none
end Cls
def classes_Named.f (s : ByteArray) : Option (List S64 × Bool) := some ((Cls.named s.data.toList).getD [], (Cls.named s.data.toList).isSome)
end Go.Proofs.YtamhkdlcoghdbaaGreatDoor.PCls
namespace Go.Proofs.YtamhkdlcoghdbaaGreatDoor.PCls
open Go.RowKit Go.Proofs.YtamhkdlcoghdbaaGreatDoorW.PrintWords Go.Proofs.YtamhkdlcoghdbaaGreatDoorW.PrintLast Go.Proofs.YtamhkdlcoghdbaaGreatDoorW.PrintMore
set_option linter.unusedVariables false
set_option linter.unusedSimpArgs false
end Go.Proofs.YtamhkdlcoghdbaaGreatDoor.PCls
namespace Go.Proofs.YtamhkdlcoghdbaaGreatDoor.PCls
open Go.RowKit Go.Proofs.YtamhkdlcoghdbaaGreatDoorW.PrintWords Go.Proofs.YtamhkdlcoghdbaaGreatDoorW.PrintLast Go.Proofs.YtamhkdlcoghdbaaGreatDoorW.PrintMore
open Go.ChangeShapes Go.WideShapes Go.ChangeAt
set_option linter.unusedVariables false
set_option linter.unusedSimpArgs false
end Go.Proofs.YtamhkdlcoghdbaaGreatDoor.PCls
namespace Go.Proofs.YtamhkdlcoghdbaaGreatDoor.PCls
open Go.RowKit Go.Proofs.YtamhkdlcoghdbaaGreatDoorW.PrintWords Go.Proofs.YtamhkdlcoghdbaaGreatDoorW.PrintLast Go.Proofs.YtamhkdlcoghdbaaGreatDoorW.PrintMore
set_option linter.unusedVariables false
set_option linter.unusedSimpArgs false
end Go.Proofs.YtamhkdlcoghdbaaGreatDoor.PCls
namespace Go.Proofs.YtamhkdlcoghdbaaGreatDoor.PCls
open Go.RowKit Go.Proofs.YtamhkdlcoghdbaaGreatDoorW.PrintWords Go.Proofs.YtamhkdlcoghdbaaGreatDoorW.PrintLast Go.Proofs.YtamhkdlcoghdbaaGreatDoorW.PrintMore
open Go.Shelf Go.Lib
set_option linter.unusedVariables false
set_option linter.unusedSimpArgs false
end Go.Proofs.YtamhkdlcoghdbaaGreatDoor.PCls
namespace Go.Proofs.YtamhkdlcoghdbaaGreatDoor.PCls
open Go.RowKit Go.Proofs.YtamhkdlcoghdbaaGreatDoorW.PrintWords Go.Proofs.YtamhkdlcoghdbaaGreatDoorW.PrintLast Go.Proofs.YtamhkdlcoghdbaaGreatDoorW.PrintMore
open Go.Shelf Go.Lib
set_option linter.unusedVariables false
set_option linter.unusedSimpArgs false
end Go.Proofs.YtamhkdlcoghdbaaGreatDoor.PCls
/- Out of LOne (wip/tools/prune2.py): the declarations alone that the texts of the trees name. -/
namespace Go.Proofs.YtamhkdlcoghdbaaGreatDoor.PCls
open Go.RowKit Go.Proofs.YtamhkdlcoghdbaaGreatDoorW.PrintWords Go.Proofs.YtamhkdlcoghdbaaGreatDoorW.PrintLast Go.Proofs.YtamhkdlcoghdbaaGreatDoorW.PrintMore
set_option linter.unusedVariables false
set_option linter.unusedSimpArgs false
end Go.Proofs.YtamhkdlcoghdbaaGreatDoor.PCls
namespace Go.Proofs.YtamhkdlcoghdbaaGreatDoor.PCls
open Go.RowKit Go.Proofs.YtamhkdlcoghdbaaGreatDoorW.PrintWords Go.Proofs.YtamhkdlcoghdbaaGreatDoorW.PrintLast Go.Proofs.YtamhkdlcoghdbaaGreatDoorW.PrintMore
set_option linter.unusedVariables false
set_option linter.unusedSimpArgs false
/-- every number lies between -/
theorem linR_of_mem (l : List S64) (hc : Cls.Can l) (h : ∀ c, Cls.Mem l c → -9223372036854775808 ≤ c ∧ c ≤ 9223372036854775807) : inR l = true := by
 refine (inR_iff l).2 fun r hr => ?_
 have hle := hc.2 r hr
 have a := h r.f0 ⟨r, hr, Int.le_refl _, hle⟩
 have b := h r.f1 ⟨r, hr, hle, Int.le_refl _⟩
 omega
theorem lmem_inR (l : List S64) (h : inR l = true) (c : Int) (hm : Cls.Mem l c) : -9223372036854775808 ≤ c ∧ c ≤ 9223372036854775807 := by
 obtain ⟨r, hr, h0, h1⟩ := hm
 have := (inR_iff l).1 h r hr
 omega
theorem linR_cls (l : List S64) (h : inR l = true) : inR (Cls.cls l) = true := linR_of_mem _ (Cls.cls_can l) fun c hc => lmem_inR l h c ((Cls.cls_mem l c).1 hc)
end Go.Proofs.YtamhkdlcoghdbaaGreatDoor.PCls
namespace Go.Proofs.YtamhkdlcoghdbaaGreatDoor.PCls
open Go.RowKit Go.Proofs.YtamhkdlcoghdbaaGreatDoorW.PrintWords Go.Proofs.YtamhkdlcoghdbaaGreatDoorW.PrintLast Go.Proofs.YtamhkdlcoghdbaaGreatDoorW.PrintMore
set_option linter.unusedVariables false
set_option linter.unusedSimpArgs false
end Go.Proofs.YtamhkdlcoghdbaaGreatDoor.PCls
namespace Go.Proofs.YtamhkdlcoghdbaaGreatDoor.PCls
open Go.RowKit Go.Proofs.YtamhkdlcoghdbaaGreatDoorW.PrintWords Go.Proofs.YtamhkdlcoghdbaaGreatDoorW.PrintLast Go.Proofs.YtamhkdlcoghdbaaGreatDoorW.PrintMore
set_option linter.unusedVariables false
set_option linter.unusedSimpArgs false
end Go.Proofs.YtamhkdlcoghdbaaGreatDoor.PCls
namespace Go.Proofs.YtamhkdlcoghdbaaGreatDoor.PCls
open Go.RowKit Go.Proofs.YtamhkdlcoghdbaaGreatDoorW.PrintWords Go.Proofs.YtamhkdlcoghdbaaGreatDoorW.PrintLast Go.Proofs.YtamhkdlcoghdbaaGreatDoorW.PrintMore
set_option linter.unusedVariables false
set_option linter.unusedSimpArgs false
theorem Cls.norm_can (l : List S64) (m : Bool) : Cls.Can (Cls.norm l m) := Cls.and_can _ _
theorem Cls.norm_mem (l : List S64) (m : Bool) (c : Int) : Cls.Mem (Cls.norm l m) c ↔ Cls.Mem l c ∧ Cls.Mem (Cls.all m) c := Cls.and_mem _ _ _
end Go.Proofs.YtamhkdlcoghdbaaGreatDoor.PCls
