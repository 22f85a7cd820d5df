/- Put together (wip/tools/pack.py): QWp, QGOne, QLOne, QHa. -/
import Derived.Test.YtamhkdlcoghdbaaGreatDoorVMQLm
/- Out of Wp (wip/tools/prune2.py): the declarations alone that the texts of the trees name. -/
set_option linter.unusedVariables false
set_option linter.unusedSimpArgs false
namespace Go.Proofs.YtamhkdlcoghdbaaGreatDoorW.PrintWords
open Go.RowKit
section
variable {P : Program} {ops : Array Oper} {rest : List Oper} {o : Oper} {a : Act} {Q : Exit → Act → World → Prop}
end
section
variable {P : Program}
end
section
variable {P : Program} {ops : Array Oper} {rest : List Oper} {o : Oper} {a : Act} {Q : Exit → Act → World → Prop}
end
section
variable {P : Program} {ops : Array Oper} {rest : List Oper} {o : Oper} {a : Act} {Q : Exit → Act → World → Prop}
end
section
variable {P : Program} {ops : Array Oper} {o : Oper} {a : Act} {Q : Exit → Act → World → Prop} {K : Act → World → Prop}
end
section
variable {α : Type} {enc : α → Value} {d : α}
end
section
variable {α : Type} {P : Program} {ops : Array Oper} {rest : List Oper} {o : Oper} {a : Act} {Q : Exit → Act → World → Prop}
end
section
variable {P : Program}
end
section
variable {α : Type} {R R' : α → List Value → Prop} {e : TypeId} {size : Nat} {w w1 : World} {base : Nat} {v : Value} {ps : List α}
end
section
variable {P : Program} {ops : Array Oper} {rest : List Oper} {o : Oper} {a : Act} {Q : Exit → Act → World → Prop} {α : Type} {R : α → List Value → Prop}
end
section
variable {P : Program} {ops : Array Oper} {o : Oper} {a : Act} {Q : Exit → Act → World → Prop} {K : Act → World → Prop} {α : Type} {R : α → List Value → Prop}
end
section
variable {α : Type} {P : Program}
end
section
variable {P : Program} {ops : Array Oper} {rest : List Oper} {o : Oper} {a : Act} {Q : Exit → Act → World → Prop}
end
namespace Kd
section
variable {α : Type} {d : Kd α} {e : Nat} {w w1 : World} {base : Nat} {ok ok' : Nat → Prop} {v : Value} {xs : List α}
end
def string : Kd ByteArray := scalar Value.string (fun _ => rfl)
section
variable {P : Program} {ops : Array Oper} {rest : List Oper} {o : Oper} {a : Act} {Q : Exit → Act → World → Prop} {α : Type}
end
section
variable {P : Program} {ops : Array Oper} {o : Oper} {a : Act} {Q : Exit → Act → World → Prop} {Kc : Act → World → Prop} {α : Type}
end
end Kd
namespace Kd
section
variable {α : Type} {F : Kd α → Kd α} {sz : Nat} {E : List Nat} {hs : ∀ n, (upto F sz E n).sz = sz} {hE : ∀ n q, q ∈ (upto F sz E n).E → q ∈ E}
end
end Kd
namespace Kd
end Kd
namespace Kd
section
variable {α β : Type} {d : Kd α} {d' : Kd β} {e e' : Nat} {w w1 W : World} {base b b' : Nat} {ok ok' okv oku : Nat → Prop} {v u : Value} {xs : List α} {ys : List β}
end
section
variable {w W : World} {A : Option Addr} {n : Nat}
variable {α : Type} {enc : α → Value} {h1 : ∀ x, (enc x).oneCell' = true} {e base g cap : Nat} {ok : Nat → Prop} {xs : List α}
end
section
variable {P : Program} {ops : Array Oper} {rest : List Oper} {o : Oper} {a : Act} {Q : Exit → Act → World → Prop}
variable {α : Type}
end
end Kd
section
variable {P : Program}
end
section
variable {w w1 : World} {base n size : Nat} {e : TypeId} {v : Value} {xs : List Value}
end
section
variable {P : Program}
end
namespace Kd
section
variable {α : Type} {d : Kd α} {e : Nat} {w w1 W : World} {base : Nat} {ok ok' : Nat → Prop} {v : Value} {xs : List α}
end
section
variable {P : Program} {ops : Array Oper} {rest : List Oper} {o : Oper} {a : Act} {Q' : Exit → Act → World → Prop} {Kc : Act → World → Prop} {α : Type}
end
end Kd
namespace Kd
section
variable {α : Type} {d : Kd α} {e e' : Nat} {w w1 W : World} {base : Nat} {ok : Nat → Prop} {u v : Value} {xs : List α}
end
end Kd
namespace Kd
section
variable {α : Type} {d : Kd α} {e base g n cap : Nat} {ok okp : Nat → Prop} {W : World} {xs : List α}
end
end Kd
namespace Kd
section
variable {α : Type} {F : Kd α → Kd α} {sz : Nat} {E : List Nat} {hs : ∀ n, (upto F sz E n).sz = sz} {hE : ∀ n q, q ∈ (upto F sz E n).E → q ∈ E}
end
end Kd
namespace Kd
section
variable {P : Program} {ops : Array Oper} {rest : List Oper} {o : Oper} {a : Act} {Q : Exit → Act → World → Prop} {α : Type}
end
end Kd
namespace Kd
section
variable {P : Program} {ops : Array Oper} {rest : List Oper} {o : Oper} {a : Act} {Q : Exit → Act → World → Prop} {α : Type}
end
end Kd
namespace Kd
section
variable {α : Type} {k : Kd α} {w : World} {A : Option Addr} {xs : List α} {m c : Nat}
end
end Kd
section
variable {P : Program}
end
namespace Kd
section
variable {α β : Type} {d : Kd α} {d' : Kd β} {e e' base base' n : Nat} {ok ok' : Nat → Prop} {w W w1 W1 : World} {v u : Value} {xs : List α} {ys : List β} {A : Option Addr} {c : Nat}
end
section
variable {α : Type} {enc : α → Value} {h1 : ∀ x, (enc x).oneCell' = true} {w W : World} {A : Option Addr} {n g : Nat} {xs : List α}
end
end Kd
namespace Kd
section
variable {α : Type} {d : Kd α} {e base g : Nat} {ok : Nat → Prop} {w w1 : World} {v : Value} {xs : List α} {o : Obj}
end
end Kd
section
variable {P : Program} {ops : Array Oper} {rest : List Oper} {o : Oper} {a : Act} {Q : Exit → Act → World → Prop}
end
namespace Kd
section
variable {α : Type} {enc : α → Value} {h1 : ∀ x, (enc x).oneCell' = true} {e base g n cap : Nat} {ok : Nat → Prop} {W : World} {xs : List α}
end
end Kd
section
variable {P : Program} {ops : Array Oper} {rest : List Oper} {o : Oper} {a : Act} {Q : Exit → Act → World → Prop}
end
namespace Kd
section
variable {α : Type} {enc : α → Value} {h1 : ∀ x, (enc x).oneCell' = true} {e base g n cap : Nat} {ok : Nat → Prop} {W : World} {xs : List α}
end
end Kd
section
variable {P : Program} {ops : Array Oper} {rest : List Oper} {o : Oper} {a : Act} {Q : Exit → Act → World → Prop} {W : World}
end
section
variable {P : Program} {ops : Array Oper} {o : Oper} {a : Act} {Q : Exit → Act → World → Prop} {Kc : Act → World → Prop}
namespace Kd
variable {α : Type}
end Kd
end
section
variable {P : Program} {tmps : Array Value} {w : World}
end
namespace Kd
section
variable {P : Program} {α : Type}
end
section
variable {P : Program} {ops : Array Oper} {rest : List Oper} {o : Oper} {a : Act} {Q : Exit → Act → World → Prop} {Kc : Act → World → Prop} {α : Type}
end
end Kd
end Go.Proofs.YtamhkdlcoghdbaaGreatDoorW.PrintWords
/-
  PRINTED WORDS, second file: A REGION THAT DRAWS ITS ORDER, WALKED BY HAND, where its last store writes what its own loads read ('x.f = append(x.f, f(i))'). Plain theorems; no macro, no elab. A claim may hold it (turn the namespace's name).
  A load may be taken first in every world that meets S; behind the operations of ds nothing is shown; sound because each of ds waits for what is taken (Region.lastB). The kernel checks it.
  By an AI agent of Go's test side, Mon Nov 16 2026. No person has read it.
-/
namespace Go.Proofs.YtamhkdlcoghdbaaGreatDoorW.PrintLast
section
variable {P : Program} {ops : Array Oper} {Q : Exit → Act → World → Prop} {md : Region.Mode} {S : World → Prop} {ds : List Nat}
end
section
variable {P : Program} {ops : Array Oper} {Q : Exit → Act → World → Prop} {md : Region.Mode} {S : World → Prop} {ds : List Nat}
end
end Go.Proofs.YtamhkdlcoghdbaaGreatDoorW.PrintLast
namespace Go.Proofs.YtamhkdlcoghdbaaGreatDoorW.PrintLast
open Go.Proofs.YtamhkdlcoghdbaaGreatDoorW.PrintWords (Aside0)
section
variable {md : Region.Mode} {ops : Array Oper} {T : Bool × List (List Nat × List Nat)} {l l' li lj lk : Array Bool} {ds : List Nat} {i j k : Nat}
end
end Go.Proofs.YtamhkdlcoghdbaaGreatDoorW.PrintLast
namespace Go.Proofs.YtamhkdlcoghdbaaGreatDoorW.PrintLast
section
variable {P : Program} {ops : Array Oper} {Q : Exit → Act → World → Prop} {md : Region.Mode} {S : World → Prop} {ds : List Nat} {T : Bool × List (List Nat × List Nat)}
end
end Go.Proofs.YtamhkdlcoghdbaaGreatDoorW.PrintLast
namespace Go.Proofs.YtamhkdlcoghdbaaGreatDoorW.PrintWords
open Go.RowKit
namespace Kd
section
variable {α : Type} {d : Kd α} {e base g o n cap : Nat} {ok okp : Nat → Prop} {w W : World} {v : Value} {xs : List α}
end
section
variable {α : Type} {enc : α → Value} {h1 : ∀ x, (enc x).oneCell' = true} {e base g o n cap : Nat} {ok : Nat → Prop} {W : World} {xs : List α}
end
end Kd
end Go.Proofs.YtamhkdlcoghdbaaGreatDoorW.PrintWords
/-! ### 40. Elements whose inner rows lie apart: what is stored into one says nothing of the others.
   S: as R, with an owner function f (block to element's index). H: as S with a hole: of element i its cells alone are told, its blocks are oki. -/
namespace Go.Proofs.YtamhkdlcoghdbaaGreatDoorW.PrintWords
open Go.RowKit
namespace Kd
section
variable {α β : Type} {d : Kd α} {d' : Kd β} {e e' : Nat} {w w1 W : World} {base b : Nat} {ok ok' okv oku : Nat → Prop} {u v : Value} {xs : List α} {ys : List β}
end
section
variable {α β : Type} {d : Kd α} {d' : Kd β} {e e' g : Nat} {w w1 W : World} {base b : Nat} {ok ok' okv oku : Nat → Prop} {u v : Value} {xs : List α} {ys : List β}
end
section
open Classical in
variable {P : Program} {ops : Array Oper} {rest : List Oper} {o : Oper} {a : Act} {Q : Exit → Act → World → Prop} {Kc : Act → World → Prop} {α : Type}
end
section
variable {α β : Type} {d : Kd α} {e e' g n cap : Nat} {w w1 W : World} {base : Nat} {ok ok' oki okp : Nat → Prop} {u v : Value} {xs : List α} {i : Int} {c : List Value}
open Classical in
end
section
variable {P : Program} {ops : Array Oper} {rest : List Oper} {o : Oper} {a : Act} {Q : Exit → Act → World → Prop} {α : Type}
end
end Kd
end Go.Proofs.YtamhkdlcoghdbaaGreatDoorW.PrintWords
namespace Go.Proofs.YtamhkdlcoghdbaaGreatDoorW.PrintWords
open Go.RowKit
namespace Kd
section
variable {α : Type} {n : Nat} {d : Kd α} {hs : 0 < d.sz} {w : World} {base : Nat} {ok : Nat → Prop} {xs : List α} {cs : List Value}
end
section
variable {α : Type} {n : Nat} {enc : α → Value} {h1 : ∀ x, (enc x).oneCell' = true} {hs : 0 < (scalar enc h1).sz} {w : World} {base : Nat} {ok : Nat → Prop} {xs : List α} {cs : List Value}
end
end Kd
end Go.Proofs.YtamhkdlcoghdbaaGreatDoorW.PrintWords
namespace Go.Proofs.YtamhkdlcoghdbaaGreatDoorW.PrintWords
open Go.RowKit
section
variable {P : Program}
end
namespace Kd
section
variable {P : Program} {ops : Array Oper} {rest : List Oper} {o : Oper} {a : Act} {Q : Exit → Act → World → Prop} {Kc : Act → World → Prop} {α : Type}
end
section
variable {α : Type} {d : Kd α} {e : Nat} {w : World} {base : Nat} {ok : Nat → Prop} {v : Value} {xs : List α}
end
section
variable {P : Program} {ops : Array Oper} {rest : List Oper} {o : Oper} {a : Act} {Q : Exit → Act → World → Prop} {Kc : Act → World → Prop} {α : Type}
end
end Kd
end Go.Proofs.YtamhkdlcoghdbaaGreatDoorW.PrintWords
namespace Go.Proofs.YtamhkdlcoghdbaaGreatDoorW.PrintWords
open Go.RowKit
namespace Kd
/-- What a kind reads lies in the blocks: nothing else of the world is looked at. -/
structure Heap {α : Type} (d : Kd α) : Prop where
  K : ∀ {w w1 : World} {x : α} {cs : List Value}, (∀ k, k < w.heap.size → w1.heap[k]? = w.heap[k]?) → d.K w x cs → d.K w1 x cs
theorem Heap.C {α : Type} {d : Kd α} (hd : Heap d) {w w1 : World} {A : Option Addr} {n : Nat} {xs : List α} (hb : ∀ k, k < w.heap.size → w1.heap[k]? = w.heap[k]?) (h : d.C w A n xs) : d.C w1 A n xs :=
  ⟨h.1, h.2.1, fun hn => by
    obtain ⟨ad, e, hc⟩ := h.2.2 hn
    refine ⟨ad, e, fun j p hj => ?_⟩
    obtain ⟨c, hs, hr, hcell⟩ := hc j p hj
    exact ⟨c, hs, hd.K hb hr, fun i u hu => cell_heap hb (hcell i u hu)⟩⟩
section
variable {α : Type} {d : Kd α} {e base g n c : Nat} {ok : Nat → Prop} {w w0 W : World} {A : Option Addr} {xs : List α}
end
end Kd
end Go.Proofs.YtamhkdlcoghdbaaGreatDoorW.PrintWords
namespace Go.Proofs.YtamhkdlcoghdbaaGreatDoorW.PrintWords
open Go.RowKit
section
variable {w W W2 : World} {S S2 S' : Nat → Prop}
end
namespace Kd
section
variable {α : Type} {d : Kd α} {e base n c : Nat} {ok oki S S2 : Nat → Prop} {w w0 W W1 W2 : World} {v : Value} {A : Option Addr} {xs : List α} {i : Int} {cs : List Value}
end
end Kd
end Go.Proofs.YtamhkdlcoghdbaaGreatDoorW.PrintWords
namespace Go.Proofs.YtamhkdlcoghdbaaGreatDoorW.PrintWords
open Go.RowKit
namespace Foot
variable {P Q : World → Prop} {W W1 : World} {ok ok' : Nat → Prop}
end Foot
namespace Kd
section
variable {α β : Type} {d : Kd α} {e base n n' cc g N : Nat} {ok ok' okp S : Nat → Prop} {w w0 w1 W W1 : World} {A A' : Option Addr} {u v v1 : Value} {xs : List α} {xs' : List β} {d' : Kd β} {x : α} {c : List Value}
end
end Kd
end Go.Proofs.YtamhkdlcoghdbaaGreatDoorW.PrintWords
namespace Go.Proofs.YtamhkdlcoghdbaaGreatDoorW.PrintWords
open Go.RowKit
namespace Kd
section
variable {α : Type} {d : Kd α} {e base n cc g : Nat} {ok ok' okp S : Nat → Prop} {w w1 W W1 : World} {A : Option Addr} {u v v1 : Value} {xs : List α} {x : α} {c : List Value}
end
end Kd
end Go.Proofs.YtamhkdlcoghdbaaGreatDoorW.PrintWords
namespace Go.Proofs.YtamhkdlcoghdbaaGreatDoorW.PrintWords
open Go.RowKit
namespace Kd
section
variable {α : Type} {d : Kd α} {W : World} {g n : Nat} {S ok : Nat → Prop} {A : Option Addr} {ad : Addr} {xs : List α}
end
end Kd
end Go.Proofs.YtamhkdlcoghdbaaGreatDoorW.PrintWords
namespace Go.Proofs.YtamhkdlcoghdbaaGreatDoorW.PrintWords
open Go.RowKit
section
variable {w w' u : World} {m B g : Nat} {o : Obj} {row : Option Nat} {S : Nat → Prop} {a : Addr} {v : Value}
end
namespace Kd
section
variable {α : Type} {d : Kd α} {e base n m : Nat} {ok : Nat → Prop} {w w' : World} {v : Value} {A : Option Addr} {xs : List α}
end
end Kd
end Go.Proofs.YtamhkdlcoghdbaaGreatDoorW.PrintWords
namespace Go.Proofs.YtamhkdlcoghdbaaGreatDoorW.PrintWords
open Go.RowKit
section
variable {P : Program} {d : Nat} {xs ys : Array Value} {f : Field} {fs : List Field} {a b : Value} {r s : Bool} {w : World}
end
end Go.Proofs.YtamhkdlcoghdbaaGreatDoorW.PrintWords
namespace Go.Proofs.YtamhkdlcoghdbaaGreatDoorW.PrintWords
end Go.Proofs.YtamhkdlcoghdbaaGreatDoorW.PrintWords
namespace Go.Proofs.YtamhkdlcoghdbaaGreatDoorW.PrintLast
section
variable {P : Program} {ops : Array Oper} {Q : Exit → Act → World → Prop} {md : Region.Mode} {T : Bool × List (List Nat × List Nat)} {B : List Nat} {O : List Nat} {b : Nat → Bool} {i j n : Nat}
end
end Go.Proofs.YtamhkdlcoghdbaaGreatDoorW.PrintLast
namespace Go.Proofs.YtamhkdlcoghdbaaGreatDoorW.PrintWords
open Go.RowKit
end Go.Proofs.YtamhkdlcoghdbaaGreatDoorW.PrintWords
namespace Go.Proofs.YtamhkdlcoghdbaaGreatDoorW.PrintLast
section
variable {ops : Array Oper} {a : Act} {o og : Oper} {g : Nat} {t : Tmp} {u : Bool}
end
end Go.Proofs.YtamhkdlcoghdbaaGreatDoorW.PrintLast
namespace Go.Proofs.YtamhkdlcoghdbaaGreatDoorW.PrintWords
open Go.RowKit
section
variable {P : Program} {ops : Array Oper} {rest : List Oper} {o : Oper} {a : Act} {Q : Exit → Act → World → Prop} {W : World}
end
end Go.Proofs.YtamhkdlcoghdbaaGreatDoorW.PrintWords
namespace Go.Proofs.YtamhkdlcoghdbaaGreatDoorW.PrintWords
open Go.RowKit
namespace Kd
section
variable {α : Type} {d : Kd α} {e base n cap g : Nat} {ok ok' okp : Nat → Prop} {w w1 W : World} {v v1 : Value} {xs ys : List α}
end
section
variable {P : Program} {ops : Array Oper} {rest : List Oper} {o : Oper} {a : Act} {Q : Exit → Act → World → Prop} {Kc : Act → World → Prop} {α : Type}
end
end Kd
end Go.Proofs.YtamhkdlcoghdbaaGreatDoorW.PrintWords
namespace Go.Proofs.YtamhkdlcoghdbaaGreatDoorW.PrintMore
open Go.RowKit Go.Proofs.YtamhkdlcoghdbaaGreatDoorW.PrintWords
namespace Kd
open Go.Proofs.YtamhkdlcoghdbaaGreatDoorW.PrintWords.Kd
end Kd
namespace Kd
open Go.Proofs.YtamhkdlcoghdbaaGreatDoorW.PrintWords.Kd
section
variable {α : Type} {d : Kd α} {e base g N : Nat} {ok : Nat → Prop} {W w1 : World} {u v : Value} {xs : List α}
end
end Kd
end Go.Proofs.YtamhkdlcoghdbaaGreatDoorW.PrintMore
namespace Go.Proofs.YtamhkdlcoghdbaaGreatDoorW.PrintWords
open Go.RowKit
section
variable {P : Program} {ops : Array Oper} {rest : List Oper} {o : Oper} {a : Act} {Q : Exit → Act → World → Prop} {W : World}
end
namespace Kd
section
variable {α : Type} {d : Kd α} {e base : Nat} {ok : Nat → Prop} {W w1 : World} {v : Value} {xs : List α}
end
section
variable {α : Type} {d : Kd α} {e base g n cap : Nat} {ok oki okp : Nat → Prop} {W : World} {xs : List α} {i : Int} {c : List Value}
end
section
variable {α : Type} {d : Kd α} {e base b b' g N : Nat} {ok ok1 : Nat → Prop} {W W2 w1 : World} {u v : Value} {xs ys : List α} {S : Nat → Prop}
end
end Kd
end Go.Proofs.YtamhkdlcoghdbaaGreatDoorW.PrintWords
namespace Go.Proofs.YtamhkdlcoghdbaaGreatDoorW.PrintWords
open Go.RowKit
namespace Kd
section
variable {α β : Type} {d : Kd α} {e base base' n m c g N' lo hi : Nat} {ok ok' S : Nat → Prop} {w W w1 : World} {A : Option Addr} {ad : Addr} {u v v1 : Value} {xs : List α}
end
end Kd
end Go.Proofs.YtamhkdlcoghdbaaGreatDoorW.PrintWords
/- Out of GOne (wip/tools/prune2.py): the declarations alone that the texts of the trees name. -/
namespace Go.Proofs.YtamhkdlcoghdbaaGreatDoor.PCls
open Go.RowKit Go.Proofs.YtamhkdlcoghdbaaGreatDoorW.PrintWords Go.Proofs.YtamhkdlcoghdbaaGreatDoorW.PrintLast Go.Proofs.YtamhkdlcoghdbaaGreatDoorW.PrintMore
set_option linter.unusedVariables false
set_option linter.unusedSimpArgs false
namespace Cls
end Cls
namespace Cls
/-- a range from lo to hi, without what is in a class -/
def cut (hi : Int) : Int → List S64 → List S64
 | lo, [] => [⟨lo, hi⟩]
 | lo, x :: b =>
  if hi < x.f0 then [⟨lo, hi⟩]
  else (if lo < x.f0 then [⟨lo, x.f0 - 1⟩] else []) ++ (if x.f1 < hi then cut hi (x.f1 + 1) b else [])
theorem cut_in (hi : Int) : ∀ (lo : Int) (b : List S64), lo ≤ hi → Can b → (∀ s, s ∈ b → lo ≤ s.f1) → ∀ x, x ∈ cut hi lo b → lo ≤ x.f0 ∧ x.f0 ≤ x.f1 ∧ x.f1 ≤ hi := by
 intro lo b
 induction b generalizing lo with
 | nil => intro h _ _ x hx; simp [cut] at hx; subst hx; exact ⟨Int.le_refl _, h, Int.le_refl _⟩
 | cons s b ih =>
  intro h hb hs x hx
  unfold cut at hx
  have h1 := hs s List.mem_cons_self
  have h2 := can_head hb
  split at hx
  ·simp at hx; subst hx; exact ⟨Int.le_refl _, h, Int.le_refl _⟩
  ·rcases List.mem_append.1 hx with hx | hx
   ·split at hx
    ·simp at hx; subst hx; simp only; omega
    ·simp at hx
   ·split at hx
    ·have := ih (s.f1 + 1) (by omega) (can_tail hb) (fun y hy => by have := can_gap hb y hy; have := (can_tail hb).2 y hy; omega) x hx
     omega
    ·simp at hx
theorem cut_can (hi : Int) : ∀ (lo : Int) (b : List S64), lo ≤ hi → Can b → (∀ s, s ∈ b → lo ≤ s.f1) → Can (cut hi lo b) := by
 intro lo b
 induction b generalizing lo with
 | nil => intro h _ _; simp [cut, Can, h]
 | cons s b ih =>
  intro h hb hs
  unfold cut
  have h1 := hs s List.mem_cons_self
  have h2 := can_head hb
  split
  ·simp [Can, h]
  ·split
   ·rename_i hlt
    split
    ·have hb' : ∀ y, y ∈ b → s.f1 + 1 ≤ y.f1 := fun y hy => by have := can_gap hb y hy; have := (can_tail hb).2 y hy; omega
     have hc := ih (s.f1 + 1) (by omega) (can_tail hb) hb'
     refine ⟨List.pairwise_cons.2 ⟨fun x hx => ?_, hc.1⟩, fun x hx => ?_⟩
     ·have := cut_in hi (s.f1 + 1) b (by omega) (can_tail hb) hb' x hx
      simp only
      omega
     ·rcases List.mem_cons.1 hx with rfl | hx
      ·simp only; omega
      ·exact hc.2 x hx
    ·simp [Can]; omega
   ·split
    ·exact ih (s.f1 + 1) (by omega) (can_tail hb) (fun y hy => by have := can_gap hb y hy; have := (can_tail hb).2 y hy; omega)
    ·exact can_nil
theorem cut_mem (hi : Int) : ∀ (lo : Int) (b : List S64), lo ≤ hi → Can b → (∀ s, s ∈ b → lo ≤ s.f1) → ∀ c, Mem (cut hi lo b) c ↔ (lo ≤ c ∧ c ≤ hi) ∧ ¬ Mem b c := by
 intro lo b
 induction b generalizing lo with
 | nil => intro h _ _ c; simp [cut, mem_cons, mem_nil]
 | cons s b ih =>
  intro h hb hs c
  unfold cut
  have h1 := hs s List.mem_cons_self
  have h2 := can_head hb
  have g : Mem b c → s.f1 + 1 < c := can_beyond hb
  split
  ·rename_i hlt
   simp only [mem_cons, mem_nil, or_false]
   constructor
   ·intro hc
    refine ⟨hc, ?_⟩
    rintro (k | k)
    ·omega
    ·have := g k; omega
   ·exact fun hc => hc.1
  ·rename_i hge
   rw [mem_append, mem_cons s b]
   have e1 : Mem (if lo < s.f0 then [(⟨lo, s.f0 - 1⟩ : S64)] else []) c ↔ lo ≤ c ∧ c < s.f0 := by
    split
    ·simp only [mem_cons, mem_nil, or_false]; omega
    ·simp only [mem_nil, false_iff]; omega
   rw [e1]
   split
   ·rename_i hlt
    rw [ih (s.f1 + 1) (by omega) (can_tail hb) (fun y hy => by have := can_gap hb y hy; have := (can_tail hb).2 y hy; omega) c]
    generalize Mem b c = B at *
    constructor
    ·rintro (k | ⟨k, k2⟩)
     ·refine ⟨by omega, ?_⟩
      rintro (k1 | k1)
      ·omega
      ·have := g k1; omega
     ·refine ⟨by omega, ?_⟩
      rintro (k1 | k1)
      ·omega
      ·exact k2 k1
    ·rintro ⟨k, k2⟩
     by_cases hc : c < s.f0
     ·exact .inl (by omega)
     ·refine .inr ⟨?_, fun k1 => k2 (.inr k1)⟩
      have : ¬ (s.f0 ≤ c ∧ c ≤ s.f1) := fun k1 => k2 (.inl k1)
      omega
   ·rename_i hnl
    simp only [mem_nil, or_false]
    constructor
    ·intro k
     refine ⟨by omega, ?_⟩
     rintro (k1 | k1)
     ·omega
     ·have := g k1; omega
    ·rintro ⟨k, k2⟩
     have : ¬ (s.f0 ≤ c ∧ c ≤ s.f1) := fun k1 => k2 (.inl k1)
     omega
/-- what is in the first alone: each range cut by what of the second doesn't lie ahead of it -/
def less : List S64 → List S64 → List S64
 | [], _ => []
 | r :: a, b => cut r.f1 r.f0 (b.dropWhile fun x => decide (x.f1 < r.f0)) ++ less a (b.dropWhile fun x => decide (x.f1 < r.f0))
theorem drop_can {b : List S64} (lo : Int) (h : Can b) : Can (b.dropWhile fun x => decide (x.f1 < lo)) := by
 have hs := List.dropWhile_sublist (fun x : S64 => decide (x.f1 < lo)) (l := b)
 exact ⟨h.1.sublist hs, fun r hr => h.2 r (hs.subset hr)⟩
theorem drop_from {b : List S64} (lo : Int) (h : Can b) : ∀ s, s ∈ (b.dropWhile fun x => decide (x.f1 < lo)) → lo ≤ s.f1 := by
 induction b with
 | nil => intro s hs; simp at hs
 | cons x b ih =>
  intro s hs
  rw [List.dropWhile_cons] at hs
  split at hs
  ·exact ih (can_tail h) s hs
  ·rename_i hx
   simp at hx
   rcases List.mem_cons.1 hs with rfl | hs
   ·exact hx
   ·have := can_gap h s hs
    have := (can_tail h).2 s hs
    omega
theorem drop_mem {b : List S64} (lo : Int) (h : Can b) (c : Int) (hc : lo ≤ c) : Mem (b.dropWhile fun x => decide (x.f1 < lo)) c ↔ Mem b c := by
 induction b with
 | nil => simp
 | cons x b ih =>
  rw [List.dropWhile_cons]
  split
  ·rename_i hx
   simp at hx
   rw [ih (can_tail h), mem_cons]
   constructor
   ·exact .inr
   ·rintro (k | k)
    ·omega
    ·exact k
  ·rfl
theorem less_spec : ∀ (a b : List S64), Can a → Can b → Can (less a b) ∧ (∀ c, Mem (less a b) c ↔ Mem a c ∧ ¬ Mem b c)
 | [], b, _, _ => ⟨can_nil, fun c => by simp [less, mem_nil]⟩
 | r :: a, b, ha, hb => by
  have hd := drop_can r.f0 hb
  have hf := drop_from r.f0 hb
  have h := less_spec a _ (can_tail ha) hd
  have hr := can_head ha
  have hin := cut_in r.f1 r.f0 _ hr hd hf
  refine ⟨⟨?_, ?_⟩, fun c => ?_⟩
  ·unfold less
   rw [List.pairwise_append]
   refine ⟨(cut_can r.f1 r.f0 _ hr hd hf).1, h.1.1, fun x hx y hy => ?_⟩
   have h1 := hin x hx
   have hy0 := h.1.2 y hy
   have h2 := ((h.2 y.f0).1 ⟨y, hy, Int.le_refl _, hy0⟩).1
   have := can_beyond ha h2
   omega
  ·intro x hx
   unfold less at hx
   rcases List.mem_append.1 hx with hx | hx
   ·exact (hin x hx).2.1
   ·exact h.1.2 x hx
  ·unfold less
   rw [mem_append, cut_mem r.f1 r.f0 _ hr hd hf, h.2, mem_cons]
   constructor
   ·rintro (⟨k, k2⟩ | ⟨k, k2⟩)
    ·exact ⟨.inl k, fun m => k2 ((drop_mem r.f0 hb c k.1).2 m)⟩
    ·have := can_beyond ha k
     exact ⟨.inr k, fun m => k2 ((drop_mem r.f0 hb c (by omega)).2 m)⟩
   ·rintro ⟨k | k, k2⟩
    ·exact .inl ⟨k, fun m => k2 ((drop_mem r.f0 hb c k.1).1 m)⟩
    ·have := can_beyond ha k
     exact .inr ⟨k, fun m => k2 ((drop_mem r.f0 hb c (by omega)).1 m)⟩
end Cls
namespace Cls
/-- the classes that have a name, by its bytes -/
def named (s : List UInt8) : Option (List S64) :=
 if s = [97, 108, 110, 117, 109] then some [⟨48, 57⟩, ⟨65, 90⟩, ⟨97, 122⟩]
 else if s = [97, 108, 112, 104, 97] then some [⟨65, 90⟩, ⟨97, 122⟩]
 else if s = [108, 111, 119, 101, 114] then some [⟨97, 122⟩]
 else if s = [117, 112, 112, 101, 114] then some [⟨65, 90⟩]
 else if s = [120, 100, 105, 103, 105, 116] then some [⟨48, 57⟩, ⟨65, 70⟩, ⟨97, 102⟩]
 else if s = [100, 105, 103, 105, 116] then some [⟨48, 57⟩]
 else if s = [115, 112, 97, 99, 101] then some [⟨9, 13⟩, ⟨32, 32⟩]
 else if s = [98, 108, 97, 110, 107] then some [⟨9, 9⟩, ⟨32, 32⟩]
 else if s = [99, 110, 116, 114, 108] then some [⟨0, 31⟩, ⟨127, 127⟩]
 else if s = [112, 114, 105, 110, 116] then some [⟨32, 126⟩]
 else if s = [103, 114, 97, 112, 104] then some [⟨33, 126⟩]
 else if s = [112, 117, 110, 99, 116] then some [⟨33, 47⟩, ⟨58, 64⟩, ⟨91, 96⟩, ⟨123, 126⟩]
 else none
end Cls
def classes_Named.f (s : ByteArray) : Option (List S64 × Bool) := some ((Cls.named s.data.toList).getD [], (Cls.named s.data.toList).isSome)
end Go.Proofs.YtamhkdlcoghdbaaGreatDoor.PCls
namespace Go.Proofs.YtamhkdlcoghdbaaGreatDoor.PCls
open Go.RowKit Go.Proofs.YtamhkdlcoghdbaaGreatDoorW.PrintWords Go.Proofs.YtamhkdlcoghdbaaGreatDoorW.PrintLast Go.Proofs.YtamhkdlcoghdbaaGreatDoorW.PrintMore
set_option linter.unusedVariables false
set_option linter.unusedSimpArgs false
end Go.Proofs.YtamhkdlcoghdbaaGreatDoor.PCls
namespace Go.Proofs.YtamhkdlcoghdbaaGreatDoor.PCls
open Go.RowKit Go.Proofs.YtamhkdlcoghdbaaGreatDoorW.PrintWords Go.Proofs.YtamhkdlcoghdbaaGreatDoorW.PrintLast Go.Proofs.YtamhkdlcoghdbaaGreatDoorW.PrintMore
open Go.ChangeShapes Go.WideShapes Go.ChangeAt
set_option linter.unusedVariables false
set_option linter.unusedSimpArgs false
end Go.Proofs.YtamhkdlcoghdbaaGreatDoor.PCls
namespace Go.Proofs.YtamhkdlcoghdbaaGreatDoor.PCls
open Go.RowKit Go.Proofs.YtamhkdlcoghdbaaGreatDoorW.PrintWords Go.Proofs.YtamhkdlcoghdbaaGreatDoorW.PrintLast Go.Proofs.YtamhkdlcoghdbaaGreatDoorW.PrintMore
set_option linter.unusedVariables false
set_option linter.unusedSimpArgs false
end Go.Proofs.YtamhkdlcoghdbaaGreatDoor.PCls
namespace Go.Proofs.YtamhkdlcoghdbaaGreatDoor.PCls
open Go.RowKit Go.Proofs.YtamhkdlcoghdbaaGreatDoorW.PrintWords Go.Proofs.YtamhkdlcoghdbaaGreatDoorW.PrintLast Go.Proofs.YtamhkdlcoghdbaaGreatDoorW.PrintMore
open Go.Shelf Go.Lib
set_option linter.unusedVariables false
set_option linter.unusedSimpArgs false
end Go.Proofs.YtamhkdlcoghdbaaGreatDoor.PCls
namespace Go.Proofs.YtamhkdlcoghdbaaGreatDoor.PCls
open Go.RowKit Go.Proofs.YtamhkdlcoghdbaaGreatDoorW.PrintWords Go.Proofs.YtamhkdlcoghdbaaGreatDoorW.PrintLast Go.Proofs.YtamhkdlcoghdbaaGreatDoorW.PrintMore
open Go.Shelf Go.Lib
set_option linter.unusedVariables false
set_option linter.unusedSimpArgs false
end Go.Proofs.YtamhkdlcoghdbaaGreatDoor.PCls
/- Out of LOne (wip/tools/prune2.py): the declarations alone that the texts of the trees name. -/
namespace Go.Proofs.YtamhkdlcoghdbaaGreatDoor.PCls
open Go.RowKit Go.Proofs.YtamhkdlcoghdbaaGreatDoorW.PrintWords Go.Proofs.YtamhkdlcoghdbaaGreatDoorW.PrintLast Go.Proofs.YtamhkdlcoghdbaaGreatDoorW.PrintMore
set_option linter.unusedVariables false
set_option linter.unusedSimpArgs false
end Go.Proofs.YtamhkdlcoghdbaaGreatDoor.PCls
namespace Go.Proofs.YtamhkdlcoghdbaaGreatDoor.PCls
open Go.RowKit Go.Proofs.YtamhkdlcoghdbaaGreatDoorW.PrintWords Go.Proofs.YtamhkdlcoghdbaaGreatDoorW.PrintLast Go.Proofs.YtamhkdlcoghdbaaGreatDoorW.PrintMore
set_option linter.unusedVariables false
set_option linter.unusedSimpArgs false
/-- every number lies between -/
theorem linR_of_mem (l : List S64) (hc : Cls.Can l) (h : ∀ c, Cls.Mem l c → -9223372036854775808 ≤ c ∧ c ≤ 9223372036854775807) : inR l = true := by
 refine (inR_iff l).2 fun r hr => ?_
 have hle := hc.2 r hr
 have a := h r.f0 ⟨r, hr, Int.le_refl _, hle⟩
 have b := h r.f1 ⟨r, hr, hle, Int.le_refl _⟩
 omega
theorem lmem_inR (l : List S64) (h : inR l = true) (c : Int) (hm : Cls.Mem l c) : -9223372036854775808 ≤ c ∧ c ≤ 9223372036854775807 := by
 obtain ⟨r, hr, h0, h1⟩ := hm
 have := (inR_iff l).1 h r hr
 omega
theorem linR_cls (l : List S64) (h : inR l = true) : inR (Cls.cls l) = true := linR_of_mem _ (Cls.cls_can l) fun c hc => lmem_inR l h c ((Cls.cls_mem l c).1 hc)
end Go.Proofs.YtamhkdlcoghdbaaGreatDoor.PCls
namespace Go.Proofs.YtamhkdlcoghdbaaGreatDoor.PCls
open Go.RowKit Go.Proofs.YtamhkdlcoghdbaaGreatDoorW.PrintWords Go.Proofs.YtamhkdlcoghdbaaGreatDoorW.PrintLast Go.Proofs.YtamhkdlcoghdbaaGreatDoorW.PrintMore
set_option linter.unusedVariables false
set_option linter.unusedSimpArgs false
end Go.Proofs.YtamhkdlcoghdbaaGreatDoor.PCls
namespace Go.Proofs.YtamhkdlcoghdbaaGreatDoor.PCls
open Go.RowKit Go.Proofs.YtamhkdlcoghdbaaGreatDoorW.PrintWords Go.Proofs.YtamhkdlcoghdbaaGreatDoorW.PrintLast Go.Proofs.YtamhkdlcoghdbaaGreatDoorW.PrintMore
set_option linter.unusedVariables false
set_option linter.unusedSimpArgs false
end Go.Proofs.YtamhkdlcoghdbaaGreatDoor.PCls
namespace Go.Proofs.YtamhkdlcoghdbaaGreatDoor.PCls
open Go.RowKit Go.Proofs.YtamhkdlcoghdbaaGreatDoorW.PrintWords Go.Proofs.YtamhkdlcoghdbaaGreatDoorW.PrintLast Go.Proofs.YtamhkdlcoghdbaaGreatDoorW.PrintMore
set_option linter.unusedVariables false
set_option linter.unusedSimpArgs false
theorem Cls.norm_can (l : List S64) (m : Bool) : Cls.Can (Cls.norm l m) := Cls.and_can _ _
theorem Cls.norm_mem (l : List S64) (m : Bool) (c : Int) : Cls.Mem (Cls.norm l m) c ↔ Cls.Mem l c ∧ Cls.Mem (Cls.all m) c := Cls.and_mem _ _ _
end Go.Proofs.YtamhkdlcoghdbaaGreatDoor.PCls
/- Out of Ha (wip/tools/prune2.py): the declarations alone that the texts of the trees name. -/
namespace Go.Proofs.YtamhkdlcoghdbaaGreatDoor.PCls
open Go.RowKit Go.Shelf Go.Proofs.YtamhkdlcoghdbaaGreatDoorW.PrintWords Go.Proofs.YtamhkdlcoghdbaaGreatDoorW.PrintLast Go.Proofs.YtamhkdlcoghdbaaGreatDoorW.PrintMore
set_option linter.unusedVariables false
set_option linter.unusedSimpArgs false
def Cls.less_ (a b : List S64) : List S64 := Cls.less (Cls.cls a) (Cls.cls b)
theorem Cls.less_can (a b : List S64) : Cls.Can (Cls.less_ a b) := (Cls.less_spec _ _ (Cls.cls_can a) (Cls.cls_can b)).1
/-- ranges in memory -/
def Row (W : World) (base : Nat) (v : Value) (r : List S64) : Prop := W.ownsRow base 39 2 v r.length (rowOf r) ∧ inR r = true ∧ r.length < 2000000
theorem Row.R {W : World} {base : Nat} {v : Value} {r : List S64} (h : Row W base v r) : Kd.R k64 39 W base (fun _ => True) v r := R_of_own h.1 (fun _ _ => trivial)
theorem Row.below {A W : World} {base : Nat} {v : Value} {r : List S64} (h : Row A base v r) (hb : Below A.heap.size A W) : Row W base v r := ⟨ownMove h.1 (fun k hk => hb.block k (ownLt h.1 k hk).2), h.2⟩
theorem Row.lower {W : World} {base b : Nat} {v : Value} {r : List S64} (h : Row W base v r) (hb : b ≤ base) : Row W b v r := ⟨own_weaken h.1 hb, h.2⟩
theorem Row.form {W : World} {base : Nat} {v : Value} {r : List S64} (h : Row W base v r) : ∃ A c, v = .slice A r.length c := Kd.R_slice h.R
theorem Row.nil (W : World) (base : Nat) : Row W base (.slice none 0 0) [] := ⟨⟨rfl, .inl ⟨rfl, rfl⟩⟩, rfl, by simp⟩
/-- ranges that are read: from somewhere in a block on -/
def SlAt (w : World) (v : Value) (l : List S64) : Prop := ∃ A c, v = .slice A l.length c ∧ l.length ≤ c ∧ ∀ j r, l[j]? = some r → ∃ g o, A = some ⟨g, o, none⟩ ∧ g < w.heap.size ∧ w.cell? ⟨g, o + j * 2, none⟩ = some (.int .i64 r.f0) ∧ w.cell? ⟨g, o + j * 2 + 1, none⟩ = some (.int .i64 r.f1)
theorem SlAt.below {A W : World} {v : Value} {l : List S64} (h : SlAt A v l) (hb : Below A.heap.size A W) : SlAt W v l := by
 obtain ⟨B, c, e, hc, hr⟩ := h
 refine ⟨B, c, e, hc, fun j r hj => ?_⟩
 obtain ⟨g, o, e1, h1, h2, h3⟩ := hr j r hj
 exact ⟨g, o, e1, Nat.lt_of_lt_of_le h1 hb.size, (hb.cell (p := ⟨g, _, none⟩) h1).trans h2, (hb.cell (p := ⟨g, _, none⟩) h1).trans h3⟩
theorem Row.sl {W : World} {base : Nat} {v : Value} {l : List S64} (h : Row W base v l) : SlAt W v l := by
 rcases h.1.2 with ⟨e, h0⟩ | ⟨g, cap, cur, e, hb, hh, hc, hm, hs, htk⟩
 ·exact ⟨none, 0, by rw [e, h0], by omega, fun j r hj => by have := (List.getElem?_eq_some_iff.1 hj).1; omega⟩
 ·refine ⟨_, cap, e, hc, fun j r hj => ⟨g, 0, rfl, (Array.getElem?_eq_some_iff.1 hh).1, ?_, ?_⟩⟩
  ·have h1 := (rowOf_at l j r hj).1
   rw [← htk, List.getElem?_take] at h1
   split at h1
   ·rw [Nat.zero_add]; exact lk_cell hh (by simpa using h1)
   ·cases h1
  ·have h1 := (rowOf_at l j r hj).2
   rw [← htk, List.getElem?_take] at h1
   split at h1
   ·rw [Nat.zero_add]; exact lk_cell hh (by simpa using h1)
   ·cases h1
theorem SlAt.tail {w : World} {g o c : Nat} {r : S64} {l : List S64} (h : SlAt w (.slice (some ⟨g, o, none⟩) (l.length + 1) c) (r :: l)) : SlAt w (.slice (some ⟨g, o + 2, none⟩) l.length (c - 1)) l := by
 obtain ⟨B, c', e, hc, hr⟩ := h
 simp only [Value.slice.injEq] at e
 obtain ⟨rfl, _, rfl⟩ := e
 simp only [List.length_cons] at hc
 refine ⟨_, _, rfl, by omega, fun j x hj => ?_⟩
 obtain ⟨g', o', e1, h1, h2, h3⟩ := hr (j + 1) x (by simpa using hj)
 cases e1
 exact ⟨g, o + 2, rfl, h1, by rw [show o + 2 + j * 2 = o + (j + 1) * 2 by omega]; exact h2, by rw [show o + 2 + j * 2 + 1 = o + (j + 1) * 2 + 1 by omega]; exact h3⟩
theorem inR_at {l : List S64} (h : inR l = true) {j : Nat} {r : S64} (hj : l[j]? = some r) : -9223372036854775808 ≤ r.f0 ∧ r.f0 ≤ 9223372036854775807 ∧ -9223372036854775808 ≤ r.f1 ∧ r.f1 ≤ 9223372036854775807 := (inR_iff l).1 h r (List.mem_of_getElem? hj)
theorem rowOf_snoc (l : List S64) (r : S64) : rowOf (l ++ [r]) = rowOf l ++ [.int .i64 r.f0, .int .i64 r.f1] := by simp [rowOf, enc2]
/-- a range more -/
theorem own_range {X : World} {base : Nat} {v : Value} {l : List S64} (h : X.ownsRow base 39 2 v l.length (rowOf l)) (ad : Addr) (lo hi : Int) (hb : base ≤ X.heap.size) (hl : l.length < 8000000)
  (h0 : X.cell? (ad.add 0) = some (.int .i64 lo)) (h1 : X.cell? (ad.add 1) = some (.int .i64 hi)) :
  ∃ v' W, (Builtin.append_ #[35, 35] 35 #[v, .slice (some ad) 1 1]).run Tryz.prog X = .ok v' W ∧ W.ownsRow base 39 2 v' (l ++ [(⟨lo, hi⟩ : S64)]).length (rowOf (l ++ [(⟨lo, hi⟩ : S64)])) ∧ X.grownBy W v.ownBlock ∧ (v'.ownBlock = v.ownBlock ∨ v'.ownBlock = some X.heap.size) := by
 obtain ⟨i0, hi0, hz0, hz1, hz2⟩ := info64'
 obtain ⟨v', W, hrun, hown, hg, _, hat⟩ := run_append_own_at X base 35 35 39 i0 _ 2 16 Tryz.underlying35 hi0 hz0 hz1 hz2 rfl (by decide) v l.length (rowOf l) h ad 1 1 [.int .i64 lo, .int .i64 hi] rfl (fun j u hu => by
  match j, hu with
  | 0, hu => cases hu; exact h0
  | 1, hu => cases hu; exact h1
  | j + 2, hu => simp at hu) (by intro u hu; simp at hu; rcases hu with rfl | rfl <;> rfl) (by unfold maxLen; omega) (by omega) hb
 refine ⟨v', W, hrun, ?_, hg, hat⟩
 rw [rowOf_snoc, List.length_append]
 exact hown
namespace Cls
theorem less_cons (r : S64) (a b : List S64) : less (r :: a) b = cut r.f1 r.f0 (b.dropWhile fun x => decide (x.f1 < r.f0)) ++ less a (b.dropWhile fun x => decide (x.f1 < r.f0)) := rfl
theorem cut_cons (hi lo : Int) (x : S64) (b : List S64) : cut hi lo (x :: b) = if hi < x.f0 then [⟨lo, hi⟩] else (if lo < x.f0 then [⟨lo, x.f0 - 1⟩] else []) ++ (if x.f1 < hi then cut hi (x.f1 + 1) b else []) := rfl
end Cls
end Go.Proofs.YtamhkdlcoghdbaaGreatDoor.PCls
