/- Put together (wip/tools/pack.py): QZPClsx0, QChars, QLx, QTTree, QRg, QRp, QZShelf. -/
import Derived.Test.YtamhkdlcoghdbaaGreatDoorVQZWp
import Derived.Test.YtamhkdlcoghdbaaGreatDoorVQUtf
import Derived.Lib.OthersKept
import Derived.Laws.RangeAny
import Derived.Lib.TrimU
import Derived.Lib.RuneCountTail
import Derived.Lib.Hide
import Derived.Lib.Strings
import Derived.Lib.Index
import Derived.Shelf.SlGeneric
import Derived.Ground.SlsfProg
import Derived.Ground.SlgfProg
import Derived.Ground.SlgcProg
import Derived.Shelf.SlSortCmp.WholeK
import Derived.Shelf.SlicesQ.IndexFunc
import Derived.Shelf.SlicesG.Cmp
/- Out of ZPClsx0 (wip/tools/prune2.py): the declarations alone that the texts of the trees name. -/
namespace Go.Proofs.YtamhkdlcoghdbaaGreatDoor.PCls
open Go.RowKit Go.Proofs.YtamhkdlcoghdbaaGreatDoorW.PrintWords Go.Proofs.YtamhkdlcoghdbaaGreatDoorW.PrintLast Go.Proofs.YtamhkdlcoghdbaaGreatDoorW.PrintMore
attribute [local go_sem] max2_int min2_int max_two min_two max_three min_three max_four min_four   -- for this text's walks alone
set_option linter.unusedVariables false
set_option linter.unusedSimpArgs false
theorem info64 : (Tryz.prog.info? 39).map (fun i => (i.zero, i.size, i.bytes)) = some (some (.agg #[(.int .i64 0), (.int .i64 0)]), 2, 16) := by kernel_rfl
structure S64 where
 f0 : Int
 f1 : Int
def z64 : S64 := ⟨(0 : Int), (0 : Int)⟩
def k64 : Kd S64 := Kd.iso (Kd.pair (Kd.int .i64) (Kd.int .i64)) (fun x : S64 => (x.f0, x.f1))
theorem k64_open {w : World} {x : S64} {cs : List Value} (h : k64.K w x cs) : cs = [.int .i64 x.f0, .int .i64 x.f1] := by
 obtain ⟨_, _, rfl, rfl, rfl⟩ := h
 exact rfl
theorem k64_mk (w : World) (x : S64)  : k64.K w x [.int .i64 x.f0, .int .i64 x.f1] := ⟨[.int .i64 x.f0], [.int .i64 x.f1], rfl, rfl, rfl⟩
theorem k64_mkM (w : World) (base : Nat) (ok : Nat → Prop) (x : S64)  : k64.M w base ok x [.int .i64 x.f0, .int .i64 x.f1] := ⟨[.int .i64 x.f0], [.int .i64 x.f1], rfl, rfl, rfl⟩
def rd_T64 (xs : List S64) (i : Int) : S64 := xs.getD i.toNat z64
theorem at_T64 {w : World} {A : Option Addr} {n : Nat} {xs : List S64} (h : Kd.C k64 w A n xs) (i : Int) (h0 : 0 ≤ i) (h1 : i < n) : ∃ ad , A = some ad ∧ w.cell? (ad.add (i.toNat * 2)) = some (.int .i64 (rd_T64 xs i).f0) ∧ w.cell? ⟨(ad.add (i.toNat * 2)).block, (ad.add (i.toNat * 2)).off + 1, none⟩ = some (.int .i64 (rd_T64 xs i).f1) := by
 obtain ⟨ad, c, e, _, hK, hc0⟩ := Kd.C_get h z64 i h0 h1
 have hc : ∀ j u, c[j]? = some u → w.cell? (ad.add (i.toNat * 2 + j)) = some u := hc0
 obtain rfl := k64_open hK
 exact ⟨ad, e, hc 0 _ rfl, by rw [← add_field _ _ 1 (by omega)]; exact hc 1 _ rfl⟩
theorem rA {α : Type} {d : Kd α} {e : Nat} {w : World} {base : Nat} {ok : Nat → Prop} {v : Value} {xs : List α} (h : d.R e w base ok v xs) (o : Obj) : d.R e (w.alloc o) base ok v xs := Kd.R_alloc h o
theorem bN {w : World} {g : Nat} {o : Obj} (h : w.heap[g]? = some o) (n : Nat) : (w.drewN n).heap[g]? = some o := blk_drewN h n
theorem wN {B : Nat} {w W : World} (h : Below B w W) (n : Nat) : Below B w (W.drewN n) := pw_below_drewN h n
theorem wA {w W : World} (h : Below w.heap.size w W) (o : Obj) : Below w.heap.size w (W.alloc o) := below_alloc h o
theorem rR {α : Type} {d : Kd α} {e : Nat} {w : World} {base : Nat} {ok : Nat → Prop} {xs : List α} {A : Option Addr} {n c : Nat} (h : d.R e w base ok (Value.slice A n c) xs) : n = xs.length ∧ n ≤ c ∧ d.C w A xs.length xs := Kd.R_reads' h
end Go.Proofs.YtamhkdlcoghdbaaGreatDoor.PCls
/- Out of Chars (wip/tools/prune2.py): the declarations alone that the texts of the trees name. -/
namespace Go.Proofs.YtamhkdlcoghdbaaGreatDoor.PCls
open Go.RowKit Go.Shelf Go.Proofs.YtamhkdlcoghdbaaGreatDoorW.PrintWords Go.Proofs.YtamhkdlcoghdbaaGreatDoorW.PrintLast Go.Proofs.YtamhkdlcoghdbaaGreatDoorW.PrintMore
set_option linter.unusedVariables false
set_option linter.unusedSimpArgs false
/-- is there a character at a place? -/
def okAt (s : ByteArray) (p : Nat) : Bool := decide ((Utf8.decode s p).1 ≠ 65533 ∨ 1 < (Utf8.decode s p).2)
theorem go_tail (s : ByteArray) (p : Nat) (h : p < s.size) : Lib.decodeGo (s.extract p s.size) = Utf8.decode s p := by
 unfold Lib.decodeGo
 have hs : (s.extract p s.size).size = s.size - p := by simp
 rw [if_neg (by omega), Lib.tail_decode]
 rfl
theorem tabs_below {w w' : World} (h : Lib.Utf8Tabs 0 1 w) (hb : Below w.heap.size w w') : Lib.Utf8Tabs 0 1 w' := by
 have mv : ∀ (b o : Nat) (u : Value), w.cell? ⟨b, o, none⟩ = some u → w'.cell? ⟨b, o, none⟩ = some u := fun b o u hu => by
  have hlt : b < w.heap.size := by
   unfold World.cell? at hu
   cases hc : w.heap[b]? with
   | none => simp [hc] at hu
   | some x => exact (Array.getElem?_eq_some_iff.1 hc).1
  rw [World.cell?_of_block (w := w) (a := ⟨b, o, none⟩) (hb.block b hlt)]; exact hu
 exact ⟨fun c hc => mv _ _ _ (h.1 c hc), fun i hi => ⟨mv _ _ _ (h.2 i hi).1, mv _ _ _ (h.2 i hi).2⟩⟩
set_option maxHeartbeats 2000000 in
theorem valid_calls (r : Int) (n : Int) (w : World) : Calls Tryz.prog 163 #[.int .i32 r, .int .i64 n] w fun e w' => e = .returned (.bool (decide (r ≠ 65533) || decide (1 < n))) ∧ w' = w := by
 by_cases h : r = 65533
 ·subst h
  by_cases h1 : 1 < n
  ·go_enter Tryz.func163, Tryz.ntmps163
   go_wp2
   go_ret
   exact ⟨by simp [h1], rfl⟩
  ·go_enter Tryz.func163, Tryz.ntmps163
   go_wp2
   go_ret
   exact ⟨by simp [h1], rfl⟩
 ·have hb : (r != 65533) = true := by rw [bne_iff_ne]; exact h
  have H := Lib.hid h
  clear h
  go_enter Tryz.func163, Tryz.ntmps163
  go_wp2
  go_ret
  exact ⟨by simp [H.out], rfl⟩
end Go.Proofs.YtamhkdlcoghdbaaGreatDoor.PCls
/- Out of Lx (wip/tools/prune2.py): the declarations alone that the texts of the trees name. -/
namespace Go.Proofs.YtamhkdlcoghdbaaGreatDoor.PCls
set_option linter.unusedVariables false
/-- a token -/
structure Tok where
 kind : Int
 sat : Int
 fin : Int
 n : Int
 lo : Int
 hi : Int
 r : List S64
/-- an item of brackets -/
structure It where
 isEnd : Bool
 c : Int
 l : List S64
 sat : Int
 nx : Int
/-- what is wrong, and where -/
abbrev Er := Int × Int
/-- the operations on classes -/
structure CL where
 named : ByteArray → List S64 × Bool
 norm : List S64 → Bool → List S64
 fold : List S64 → List S64
 not_ : List S64 → Bool → List S64
namespace Lx
def byt (s : ByteArray) (p : Nat) : Nat := (s.data.toList.getD p 0).toNat
/-- does a text stand at a place? -/
def here (s : ByteArray) (p : Nat) (t : List UInt8) : Bool := decide (p ≤ s.size) && Lib.hasPrefix (s.data.toList.drop p) t
/-- the unit at a place -/
def unit (s : ByteArray) (chars : Bool) (p : Nat) : Int × Nat :=
 if p < s.size then (if chars = true then (if okAt s p = true then (((Utf8.decode s p).1 : Nat), (Utf8.decode s p).2) else (-1, 1)) else (byt s p, 1)) else (0, 0)
/-- a class by its name, or an element; x0: where the brackets begin -/
def named (C : CL) (s : ByteArray) (chars : Bool) (x0 p : Nat) (sign : UInt8) : Except Er It :=
 let b := p + 2 + (if sign = 58 then 0 else 1)
 let k := if b ≤ s.size then Lib.index (s.data.toList.drop b) [sign, 93] else -1
 if k < 0 then .error (33, x0)
 else
  let e := b + k.toNat
  if sign = 58 then
   (if (C.named (s.extract (p + 2) e)).2 = true then .ok ⟨false, 0, (C.named (s.extract (p + 2) e)).1, 0, (e + 2 : Nat)⟩ else .error (35, p))
  else
   let c := unit s chars (p + 2)
   if c.1 < 0 ∨ c.2 ≠ e - (p + 2) then .error (35, p) else .ok ⟨decide (sign = 46), c.1, [⟨c.1, c.1⟩], p, (e + 2 : Nat)⟩
/-- an item of brackets; any: also a minus is one -/
def item (C : CL) (s : ByteArray) (chars : Bool) (x0 p : Nat) (any : Bool) : Except Er It :=
 if here s p [91, 58] = true then named C s chars x0 p 58
 else if here s p [91, 61] = true then named C s chars x0 p 61
 else if here s p [91, 46] = true then named C s chars x0 p 46
 else
  let c := unit s chars p
  if c.2 = 0 then .error (33, x0)
  else if c.1 < 0 then .error (20, p)
  else if c.1 = 45 ∧ any = false ∧ here s p [45, 93] = false then (if p + 1 = s.size then .error (33, x0) else .error (34, p))
  else .ok ⟨true, c.1, [⟨c.1, c.1⟩], p, (p + c.2 : Nat)⟩
/-- a range, from an item to the one at a place -/
def span (C : CL) (s : ByteArray) (chars : Bool) (x0 : Nat) (a : It) (p : Nat) : Except Er It :=
 if here s p [91, 58] = true ∨ here s p [91, 61] = true then .error (34, a.sat)
 else match item C s chars x0 p true with
  | .error e => .error e
  | .ok b => if b.c < a.c then .error (34, a.sat) else .ok { b with l := [⟨a.c, b.c⟩] }
/-- an item, or a range -/
def part (C : CL) (s : ByteArray) (chars : Bool) (x0 p : Nat) (first : Bool) : Except Er It :=
 match item C s chars x0 p first with
 | .error e => .error e
 | .ok i => if i.isEnd = true ∧ here s i.nx.toNat [45] = true ∧ here s i.nx.toNat [45, 93] = false then span C s chars x0 i (i.nx.toNat + 1) else .ok i
/-- what stands in brackets: the ranges, and where they end -/
def parts (C : CL) (s : ByteArray) (chars : Bool) (x0 : Nat) : Nat → Nat → Bool → List S64 → Except Er (List S64 × Nat)
 | 0, _, _, _ => .error (0, 0)
 | k + 1, p, first, l =>
  if first = false ∧ here s p [93] = true then .ok (l, p)
  else match part C s chars x0 p first with
   | .error e => .error e
   | .ok i => parts C s chars x0 k i.nx.toNat false (l ++ i.l)
/-- the state of a scanner -/
structure St where
 sat : Nat
 out : List Tok
def put (x : St) (t : Tok) (e : Nat) : St := ⟨e, x.out ++ [{ t with sat := x.sat, fin := e }]⟩
def tok (kind : Int) : Tok := ⟨kind, 0, 0, 0, 0, 0, []⟩
def last (x : St) : Int := match x.out.getLast? with
 | none => 0
 | some t => t.kind
def opens (x : St) : Bool := decide (last x = 0) || decide (last x = 3) || decide (last x = 5)
def begins (x : St) : Bool := opens x || decide (last x = 7)
def oneR (C : CL) (fold : Bool) (c : Int) : List S64 := if fold = true then C.fold [⟨c, c⟩] else [⟨c, c⟩]
def char (C : CL) (fold : Bool) (x : St) (c : Int) (e : Nat) : St := put x { tok 1 with r := oneR C fold c } e
def close (C : CL) (chars fold not : Bool) (l : List S64) : List S64 :=
 let l1 := C.norm l chars
 let l2 := if fold = true then C.fold l1 else l1
 if not = true then C.not_ l2 chars else l2
def bracket (C : CL) (s : ByteArray) (chars fold : Bool) (x : St) : Except Er St :=
 let not := here s (x.sat + 1) [94]
 match parts C s chars x.sat (s.size + 2) (x.sat + 1 + (if not = true then 1 else 0)) true [] with
 | .error e => .error e
 | .ok (l, p) => .ok (put x { tok 1 with r := close C chars fold not l } (p + 1))
/-- the digits at a place, and where they end -/
def number (s : ByteArray) : Nat → Nat → Int → Int × Nat
 | 0, p, n => (n, p)
 | k + 1, p, n => if p < s.size ∧ 48 ≤ byt s p ∧ byt s p ≤ 57 then number s k (p + 1) (min (max n 0 * 10 + ((byt s p : Int) - 48)) 256) else (n, p)
def interval (s : ByteArray) (x0 p : Nat) : Except Er (Int × Int × Nat) :=
 let a := number s (s.size + 1) p (-1)
 let b := if 0 ≤ a.1 ∧ here s a.2 [44] = true then number s (s.size + 1) (a.2 + 1) (-1) else (a.1, a.2)
 if a.1 < 0 ∨ here s b.2 [92, 125] = false then .error (36, x0)
 else if 255 < a.1 ∨ 255 < b.1 ∨ (0 ≤ b.1 ∧ b.1 < a.1) then .error (37, x0)
 else .ok (a.1, b.1, b.2 + 2)
def often (s : ByteArray) (x : St) (c : Nat) (e : Nat) : Except Er St :=
 if begins x = true then .error (38, x.sat)
 else if c = 43 then .ok (put x { tok 2 with lo := 1, hi := -1 } e)
 else if c = 63 then .ok (put x { tok 2 with hi := 1 } e)
 else match interval s x.sat e with
  | .error e => .error e
  | .ok (a, b, e2) => .ok (put x { tok 2 with lo := a, hi := b } e2)
def escape (C : CL) (s : ByteArray) (fold : Bool) (x : St) : Except Er St :=
 if x.sat + 1 = s.size then .error (31, x.sat)
 else
  let c := byt s (x.sat + 1)
  let e := x.sat + 2
  if c = 40 then .ok (put x (tok 3) e)
  else if c = 41 then .ok (put x (tok 4) e)
  else if c = 124 then .ok (put x (tok 5) e)
  else if 49 ≤ c ∧ c ≤ 57 then .ok (put x { tok 6 with n := (c : Int) - 48 } e)
  else if c = 46 ∨ c = 91 ∨ c = 93 ∨ c = 42 ∨ c = 94 ∨ c = 36 ∨ c = 92 ∨ c = 47 then .ok (char C fold x c e)
  else if c = 43 ∨ c = 63 ∨ c = 123 then often s x c e
  else .error (32, x.sat)
def next (C : CL) (s : ByteArray) (chars fold : Bool) (x : St) : Except Er St :=
 let c := unit s chars x.sat
 let e := x.sat + c.2
 if c.1 < 0 then .error (20, x.sat)
 else if c.1 = 92 then escape C s fold x
 else if c.1 = 91 then bracket C s chars fold x
 else if c.1 = 46 then .ok (put x { tok 1 with r := C.not_ [] chars } e)
 else if c.1 = 42 ∧ begins x = false then .ok (put x { tok 2 with hi := -1 } e)
 else if c.1 = 94 ∧ opens x = true then .ok (put x (tok 7) e)
 else if c.1 = 36 ∧ (e = s.size ∨ here s e [92, 41] = true ∨ here s e [92, 124] = true) then .ok (put x (tok 8) e)
 else .ok (char C fold x c.1 e)
def run (C : CL) (s : ByteArray) (chars fold : Bool) : Nat → St → Except Er (List Tok)
 | 0, x => .ok x.out
 | k + 1, x => if x.sat < s.size then (match next C s chars fold x with
  | .error e => .error e
  | .ok y => run C s chars fold k y) else .ok x.out
def lex (C : CL) (s : ByteArray) (chars fold : Bool) : Except Er (List Tok) :=
 if 2000 < s.size then .error (30, 0) else run C s chars fold (s.size + 1) ⟨0, []⟩
end Lx
end Go.Proofs.YtamhkdlcoghdbaaGreatDoor.PCls
/- Out of TTree (wip/tools/prune2.py): the declarations alone that the texts of the trees name. -/
namespace Go.Proofs.YtamhkdlcoghdbaaGreatDoor.PCls
open Go.RowKit
set_option linter.unusedVariables false
set_option linter.unusedSimpArgs false
/-- a node of a pattern's tree: its kind, its number, its bounds, its ranges, its kids -/
inductive NT where
 | mk (k m lo hi : Int) (r : List S64) (kids : List NT)
namespace NT
def k : NT → Int | .mk a _ _ _ _ _ => a
def m : NT → Int | .mk _ a _ _ _ _ => a
def lo : NT → Int | .mk _ _ a _ _ _ => a
def hi : NT → Int | .mk _ _ _ a _ _ => a
def r : NT → List S64 | .mk _ _ _ _ a _ => a
def kids : NT → List NT | .mk _ _ _ _ _ a => a
instance : Inhabited NT := ⟨.mk 0 0 0 0 [] []⟩
theorem ind {P : NT → Prop} (h : ∀ k m lo hi r kids, (∀ t, t ∈ kids → P t) → P (.mk k m lo hi r kids)) (t : NT) : P t := by
 refine NT.rec (motive_1 := P) (motive_2 := fun l => ∀ t, t ∈ l → P t) ?_ ?_ ?_ t
 ·intro k m lo hi r kids ih
  exact h k m lo hi r kids ih
 ·intro t ht
  cases ht
 ·intro a l iha ihl t ht
  rcases List.mem_cons.1 ht with rfl | ht
  ·exact iha
  ·exact ihl t ht
mutual
/-- how many nodes -/
def nodes : NT → Nat
 | .mk _ _ _ _ _ kids => 1 + nodesL kids
def nodesL : List NT → Nat
 | [] => 0
 | t :: ts => nodes t + nodesL ts
end
theorem nodes_pos (t : NT) : 1 ≤ nodes t := by cases t; simp [nodes]
theorem nodes_kid {l : List NT} {t : NT} (h : t ∈ l) : nodes t ≤ nodesL l := by
 induction l with
 | nil => cases h
 | cons a l ih =>
  simp only [nodesL]
  rcases List.mem_cons.1 h with rfl | h
  ·omega
  ·have := ih h; omega
theorem nodesL_length (l : List NT) : l.length ≤ nodesL l := by
 induction l with
 | nil => simp [nodesL]
 | cons a l ih => have := nodes_pos a; simp only [nodesL, List.length_cons]; omega
theorem nodesL_append (a b : List NT) : nodesL (a ++ b) = nodesL a + nodesL b := by
 induction a with
 | nil => simp [nodesL]
 | cons x a ih => simp only [nodesL, List.cons_append, ih]; omega
end NT
/-- a node on a walk -/
structure Step where
 n : NT
 deep : Int
 around : Int
 first : Bool
 last : Bool
 branch : Bool
def branchOf (k : Int) (b : Bool) : Bool := decide (k = 7) || decide (k = 6) || (decide (k = 5) && b)
def Step.kid (s : Step) (i : Nat) (t : NT) : Step := ⟨t, s.deep + 1, s.n.k, decide (i = 0), decide (i + 1 = s.n.kids.length), branchOf s.n.k s.branch⟩
def Step.top (t : NT) : Step := ⟨t, 1, 0, true, true, true⟩
inductive Ev where
 | enter (s : Step)
 | leave (s : Step)
mutual
/-- the comings and leavings of a walk -/
def evs : NT → Int → Int → Bool → Bool → Bool → List Ev
 | .mk k m lo hi r kids, d, a, f, l, b => .enter ⟨.mk k m lo hi r kids, d, a, f, l, b⟩ :: (evsL kids (d + 1) k kids.length 0 (branchOf k b) ++ [.leave ⟨.mk k m lo hi r kids, d, a, f, l, b⟩])
def evsL : List NT → Int → Int → Nat → Nat → Bool → List Ev
 | [], _, _, _, _, _ => []
 | t :: ts, d, a, n, i, b => evs t d a (decide (i = 0)) (decide (i + 1 = n)) b ++ evsL ts d a n (i + 1) b
end
def Step.evs (s : Step) : List Ev := PCls.evs s.n s.deep s.around s.first s.last s.branch
/-- a walk's list: the node, its kids' lists, the node -/
def Step.kidsFrom (s : Step) (i : Nat) : List Ev := evsL (s.n.kids.drop i) (s.deep + 1) s.n.k s.n.kids.length i (branchOf s.n.k s.branch)
theorem Step.evs_eq (s : Step) : s.evs = .enter s :: (s.kidsFrom 0 ++ [.leave s]) := by
 obtain ⟨n, d, a, f, l, b⟩ := s
 cases n
 rfl
theorem Step.kidsFrom_end (s : Step) (i : Nat) (h : s.n.kids.length ≤ i) : s.kidsFrom i = [] := by
 unfold Step.kidsFrom
 rw [List.drop_eq_nil_of_le h]
 rfl
theorem Step.kidsFrom_next (s : Step) (i : Nat) (t : NT) (h : s.n.kids[i]? = some t) : s.kidsFrom i = (s.kid i t).evs ++ s.kidsFrom (i + 1) := by
 unfold Step.kidsFrom
 obtain ⟨hi, e⟩ := List.getElem?_eq_some_iff.1 h
 rw [List.drop_eq_getElem_cons hi, e]
 rfl
/-- a walk with a state: what each coming and each leaving makes of it, as long as it is wanted -/
def run {σ : Type} (vis : σ → Step → Bool × σ) (lv : σ → Step → σ) : List Ev → σ → Bool × σ
 | [], s => (true, s)
 | .enter t :: l, s => if (vis s t).1 = true then run vis lv l (vis s t).2 else (false, (vis s t).2)
 | .leave t :: l, s => run vis lv l (lv s t)
theorem run_enter {σ : Type} {vis : σ → Step → Bool × σ} {lv : σ → Step → σ} {t : Step} {l : List Ev} {s : σ} (h : (vis s t).1 = true) : run vis lv (.enter t :: l) s = run vis lv l (vis s t).2 := by simp only [run]; rw [if_pos h]
theorem run_stop {σ : Type} {vis : σ → Step → Bool × σ} {lv : σ → Step → σ} {t : Step} {l : List Ev} {s : σ} (h : (vis s t).1 = false) : run vis lv (.enter t :: l) s = (false, (vis s t).2) := by simp only [run]; rw [if_neg (by rw [h]; simp)]
theorem run_append {σ : Type} (vis : σ → Step → Bool × σ) (lv : σ → Step → σ) (b : List Ev) : ∀ (a : List Ev) (s : σ), ((run vis lv a s).1 = true → run vis lv (a ++ b) s = run vis lv b (run vis lv a s).2) ∧ ((run vis lv a s).1 = false → run vis lv (a ++ b) s = run vis lv a s) := by
 intro a
 induction a with
 | nil => intro s; exact ⟨fun _ => rfl, fun h => by simp [run] at h⟩
 | cons x a ih =>
  intro s
  cases x with
  | enter t =>
   rw [List.cons_append]
   cases h : (vis s t).1
   ·rw [run_stop h, run_stop h]
    exact ⟨fun h => by simp at h, fun _ => rfl⟩
   ·rw [run_enter h, run_enter h]
    exact ih _
  | leave t => exact ih _
/-- the comings alone -/
def enters : List Ev → List Step
 | [] => []
 | .enter s :: l => s :: enters l
 | .leave _ :: l => enters l
theorem enters_append (a b : List Ev) : enters (a ++ b) = enters a ++ enters b := by
 induction a with
 | nil => rfl
 | cons x a ih => cases x <;> simp [enters, ih]
theorem enters_length : ∀ (t : NT) (d a : Int) (f l b : Bool), (enters (evs t d a f l b)).length = t.nodes := by
 have hL : ∀ l : List NT, (∀ t, t ∈ l → ∀ d a f l b, (enters (evs t d a f l b)).length = t.nodes) → ∀ d a n i b, (enters (evsL l d a n i b)).length = NT.nodesL l := by
  intro l
  induction l with
  | nil => intro _ d a n i b; rfl
  | cons x l ih =>
   intro h d a n i b
   simp only [evsL, enters_append, List.length_append, NT.nodesL]
   rw [h x List.mem_cons_self, ih (fun t ht => h t (List.mem_cons_of_mem _ ht))]
 refine fun t => NT.ind (P := fun t => ∀ (d a : Int) (f l b : Bool), (enters (evs t d a f l b)).length = t.nodes) (fun k m lo hi r kids ih d a f l b => ?_) t
 simp only [evs, enters, enters_append, List.length_cons, List.length_append, NT.nodes, hL kids ih, List.append_nil]
 simp [Nat.add_comm]
end Go.Proofs.YtamhkdlcoghdbaaGreatDoor.PCls
/- Out of Rg (wip/tools/prune2.py): the declarations alone that the texts of the trees name. -/
namespace Go.Proofs.YtamhkdlcoghdbaaGreatDoor.PCls
open Go.RowKit Go.Proofs.YtamhkdlcoghdbaaGreatDoorW.PrintWords Go.Proofs.YtamhkdlcoghdbaaGreatDoorW.PrintLast Go.Proofs.YtamhkdlcoghdbaaGreatDoorW.PrintMore
set_option linter.unusedVariables false
/-- t: it yields in every world of S; p: in every world; o: it comes up alone, S is shown behind it; z: it comes up alone, nothing is shown. -/
inductive Stg where
 | t (i : Nat) | p (i : Nat) | o (i : Nat) | z (i : Nat)
def planOk (T : Bool × List (List Nat × List Nat)) (ds : List Nat) : List Stg → Bool → List Bool → Bool
 | [], _, l => readyT T.2 l == []
 | .t i :: r, s, l => s && (T.1 && freeT T.2 l i && readyAt T.2 l i && closedT T.2 l && lastT T.2 l ds i) && planOk T ds r s (l.set i true)
 | .p i :: r, s, l => (T.1 && freeT T.2 l i && readyAt T.2 l i) && planOk T ds r s (l.set i true)
 | .o i :: r, s, l => (readyT T.2 l == [i]) && !ds.contains i && planOk T ds r true (l.set i true)
 | .z i :: r, s, l => (readyT T.2 l == [i]) && ds.contains i && planOk T ds r false (l.set i true)
section
variable {P : Program} {md : Region.Mode} {ops : Array Oper} {Q : Exit → Act → World → Prop} {S : World → Prop} {ds : List Nat}
def Go (P : Program) (ops : Array Oper) (Q : Exit → Act → World → Prop) (S : World → Prop) : List Stg → Act → World → Prop
 | [], a, w => Q .normal a w
 | .t i :: r, a, w => ∃ oi v b, ops[i]? = some oi ∧ YieldsIf P ops S oi v a ∧ a.put oi.dst v = b ∧ Go P ops Q S r b w
 | .p i :: r, a, w => ∃ oi v b, ops[i]? = some oi ∧ Yields P ops oi v a ∧ a.put oi.dst v = b ∧ Go P ops Q S r b w
 | .o i :: r, a, w => ∃ oi, ops[i]? = some oi ∧ ∀ K : Act → World → Prop, Shut (∀ a' w', S w' → (S w' → Go P ops Q S r a' w') → K a' w') → if Region.wanted oi (yielded ops a.tmps) = true then Oper.wp P oi a w K Q else K (a.put oi.dst undef) w
 | .z i :: r, a, w => ∃ oi, ops[i]? = some oi ∧ ∀ K : Act → World → Prop, Shut (∀ a' w', Go P ops Q S r a' w' → K a' w') → if Region.wanted oi (yielded ops a.tmps) = true then Oper.wp P oi a w K Q else K (a.put oi.dst undef) w
theorem set_toList (l : Array Bool) (i : Nat) : (l.setIfInBounds i true).toList = l.toList.set i true := Array.toList_setIfInBounds
theorem set_self (l : Array Bool) (i : Nat) : (l.toList.set i true == (l.setIfInBounds i true).toList) = true := by rw [set_toList]; exact beq_self_eq_true _
theorem go_sound {T : Bool × List (List Nat × List Nat)} (HT : rtab md ops = T) (hQ : ∀ c d v a w, Q (.panic c) (a.put d v) w → Q (.panic c) a w) :
  ∀ (plan : List Stg) (s : Bool) (l : Array Bool) (a : Act) (w : World), planOk T ds plan s l.toList = true → (s = true → S w) → Go P ops Q S plan a w → wpAnyLast P md ops Q S ds plan.length l a w
 | [], s, l, a, w, hc, hs, h => done_ (done_of HT hc) h
 | .t i :: r, s, l, a, w, hc, hs, h => by
  simp only [planOk, Bool.and_eq_true] at hc
  obtain ⟨⟨h1, ⟨⟨⟨h2, h3⟩, h4⟩, h5⟩, h6⟩, h7⟩ := hc
  obtain ⟨oi, v, b, hi, hy, rfl, hk⟩ := h
  refine take_ (l.setIfInBounds i true) hi rfl (take_of HT ?_) (fun c a w => hQ c _ v a w) hy (hs h1) rfl (go_sound HT hQ r s _ _ _ (by rw [set_toList]; exact h7) hs hk)
  simp only [takeT, Bool.and_eq_true]
  exact ⟨⟨⟨⟨⟨h2, h3⟩, h4⟩, h5⟩, h6⟩, set_self l i⟩
 | .p i :: r, s, l, a, w, hc, hs, h => by
  simp only [planOk, Bool.and_eq_true] at hc
  obtain ⟨⟨⟨h2, h3⟩, h4⟩, h7⟩ := hc
  obtain ⟨oi, v, b, hi, hy, rfl, hk⟩ := h
  refine pure_ (l.setIfInBounds i true) hi rfl (any_of HT ?_) (fun c a w => hQ c _ v a w) hy rfl (go_sound HT hQ r s _ _ _ (by rw [set_toList]; exact h7) hs hk)
  simp only [anyT, Bool.and_eq_true]
  exact ⟨⟨⟨h2, h3⟩, h4⟩, set_self l i⟩
 | .o i :: r, s, l, a, w, hc, hs, h => by
  simp only [planOk, Bool.and_eq_true] at hc
  obtain ⟨⟨h1, h2⟩, h7⟩ := hc
  obtain ⟨oi, hi, hk⟩ := h
  refine one_ (l.setIfInBounds i true) hi rfl (one_of HT ?_) (by simpa using h2) (fun K hK => hk K (show Shut _ from fun a' w' hS hw => hK.out a' w' hS fun hS' => go_sound HT hQ r true _ _ _ (by rw [set_toList]; exact h7) (fun _ => hS') (hw hS')))
  rw [h1, set_self]; rfl
 | .z i :: r, s, l, a, w, hc, hs, h => by
  simp only [planOk, Bool.and_eq_true] at hc
  obtain ⟨⟨h1, h2⟩, h7⟩ := hc
  obtain ⟨oi, hi, hk⟩ := h
  refine last_ (l.setIfInBounds i true) hi rfl (one_of HT ?_) (by simpa using h2) (fun K hK => hk K (show Shut _ from fun a' w' hw => hK.out a' w' (go_sound HT hQ r false _ _ _ (by rw [set_toList]; exact h7) (fun e => by cases e) hw)))
  rw [h1, set_self]; rfl
theorem go_start {id : Nat} {a : Act} {w : World} (S : World → Prop) (ds : List Nat) (plan : List Stg) (hm : P.follows .mixedOrders = true)
  (hc : (plan.length == ops.size && planOk (rtab .any ops) ds plan true (List.replicate ops.size false)) = true) (hQ : ∀ c d v a w, Q (.panic c) (a.put d v) w → Q (.panic c) a w)
  (hS : S w.drew) (h : ∀ w1, S w1 → Go P ops Q S plan a w1) : (Code.region id ops true).wp P Q a w := by
 rw [Bool.and_eq_true, beq_iff_eq] at hc
 refine start_ (S := S) (ds := ds) (n := plan.length) (Array.replicate plan.length false) hm hc.1.symm rfl hS fun hS' => ?_
 exact go_sound rfl hQ plan true _ _ _ (by rw [Array.toList_replicate, hc.1]; exact hc.2) (fun _ => hS') (h _ hS')
variable {r : List Stg} {i : Nat} {a : Act} {w : World} {N : Option Tmp} {op : Op} {ty : TypeId} {ps : String} {af : Array Edge} {gd : Option (Nat × Bool)}
theorem go_t {v : Value} {b : Act} (hi : ops[i]? = some ⟨N, op, ty, ps, af, gd⟩) (hy : YieldsIf P ops S ⟨N, op, ty, ps, af, gd⟩ v a) (ha : a.put N v = b) (h : Go P ops Q S r b w) : Go P ops Q S (.t i :: r) a w := ⟨_, v, b, hi, hy, ha, h⟩
theorem go_p {v : Value} {b : Act} (hi : ops[i]? = some ⟨N, op, ty, ps, af, gd⟩) (hy : Yields P ops ⟨N, op, ty, ps, af, gd⟩ v a) (ha : a.put N v = b) (h : Go P ops Q S r b w) : Go P ops Q S (.p i :: r) a w := ⟨_, v, b, hi, hy, ha, h⟩
/-- A call of a Go function, by its contract. -/
theorem go_call {f : FuncId} {fn : Func} {ags : Array Operand} {ts : Array TypeId} {args : Array Value} {R : Ending → World → Prop} (hi : ops[i]? = some ⟨N, .call { callee := .value (.func f), args := ags, argTypes := ts }, ty, ps, af, gd⟩)
  (hw : Region.wanted ⟨N, .call { callee := .value (.func f), args := ags, argTypes := ts }, ty, ps, af, gd⟩ (yielded ops a.tmps) = true) (hf : P.funcs[f]? = some fn) (hname : (fn.name == "runtime.NumGoroutine") = false) (hb : fn.body.isSome = true) (hargs : ags.map a.eval = args) (hcall : Calls P f args w R)
  (h : ∀ e w', R e w' → ∃ v b, e = .returned v ∧ S w' ∧ a.put N v = b ∧ Go P ops Q S r b w') : Go P ops Q S (.o i :: r) a w := by
 refine ⟨_, hi, fun K hK => ?_⟩
 refine goes_ hf hname hb args hw rfl rfl hargs (hcall.mono fun e w' hR => ?_)
 obtain ⟨v, b, he, hS, hp, hk⟩ := h e w' hR
 subst hp
 exact ⟨v, he, hK.out _ _ hS fun _ => hk⟩
/-- An operation that yields a value and may make memory. -/
theorem go_val {v : Value} {w1 : World} {b : Act} (hi : ops[i]? = some ⟨N, op, ty, ps, af, gd⟩) (hw : Region.wanted ⟨N, op, ty, ps, af, gd⟩ (yielded ops a.tmps) = true) (hrun : (execOp a.eval ⟨N, op, ty, ps, af, gd⟩).run P w = .ok (.value v) w1) (ha : a.put N v = b) (hS : S w1)
  (h : Go P ops Q S r b w1) : Go P ops Q S (.o i :: r) a w := by
 subst ha
 exact ⟨_, hi, fun K hK => value_ hw rfl hrun (hK.out _ _ hS fun _ => h)⟩
theorem go_valz {v : Value} {w1 : World} {b : Act} (hi : ops[i]? = some ⟨N, op, ty, ps, af, gd⟩) (hw : Region.wanted ⟨N, op, ty, ps, af, gd⟩ (yielded ops a.tmps) = true) (hrun : (execOp a.eval ⟨N, op, ty, ps, af, gd⟩).run P w = .ok (.value v) w1) (ha : a.put N v = b)
  (h : Go P ops Q S r b w1) : Go P ops Q S (.z i :: r) a w := by
 subst ha
 exact ⟨_, hi, fun K hK => value_ hw rfl hrun (hK.out _ _ h)⟩
theorem append_run {a : Act} {w w1 : World} {s x : Operand} {t : TypeId} {v u v' : Value} (hs : a.eval s = v) (hx : a.eval x = u) (hr : (Builtin.append_ #[t, t] ty #[v, u]).run P w = .ok v' w1) :
  (execOp a.eval ⟨N, .call { callee := .builtin .append, args := #[s, x], argTypes := #[t, t] }, ty, ps, af, gd⟩).run P w = .ok (.value v') w1 := by
 unfold execOp
 simp only [resolve, invoke, builtin, Sem.run_bind, Sem.run_pure, Result.andThen_ok, List.map_toArray, List.map_cons, List.map_nil, hs, hx, hr]
/-- A store. -/
theorem go_skip {w1 : World} (hi : ops[i]? = some ⟨none, op, ty, ps, af, gd⟩) (hw : Region.wanted ⟨none, op, ty, ps, af, gd⟩ (yielded ops a.tmps) = true) (hrun : (execOp a.eval ⟨none, op, ty, ps, af, gd⟩).run P w = .ok .skip w1) (hS : S w1)
  (h : Go P ops Q S r a w1) : Go P ops Q S (.o i :: r) a w :=
 ⟨_, hi, fun K hK => skip_ hw rfl hrun (hK.out _ _ hS fun _ => h)⟩
theorem go_skipz {w1 : World} (hi : ops[i]? = some ⟨none, op, ty, ps, af, gd⟩) (hw : Region.wanted ⟨none, op, ty, ps, af, gd⟩ (yielded ops a.tmps) = true) (hrun : (execOp a.eval ⟨none, op, ty, ps, af, gd⟩).run P w = .ok .skip w1)
  (h : Go P ops Q S r a w1) : Go P ops Q S (.z i :: r) a w :=
 ⟨_, hi, fun K hK => skip_ hw rfl hrun (hK.out _ _ h)⟩
theorem go_done (h : Q .normal a w) : Go P ops Q S [] a w := h
end
end Go.Proofs.YtamhkdlcoghdbaaGreatDoor.PCls
/- Out of Rp (wip/tools/prune2.py): the declarations alone that the texts of the trees name. -/
namespace Go.Proofs.YtamhkdlcoghdbaaGreatDoor.PCls
open Go.RowKit Go.Proofs.YtamhkdlcoghdbaaGreatDoorW.PrintWords Go.Proofs.YtamhkdlcoghdbaaGreatDoorW.PrintLast Go.Proofs.YtamhkdlcoghdbaaGreatDoorW.PrintMore
set_option linter.unusedVariables false
def preOk (T : Bool × List (List Nat × List Nat)) (ds : List Nat) : List Stg → List Bool → List Bool → Bool
 | [], l, l' => l == l'
 | .t i :: r, l, l' => (T.1 && freeT T.2 l i && readyAt T.2 l i && closedT T.2 l && lastT T.2 l ds i) && preOk T ds r (l.set i true) l'
 | .p i :: r, l, l' => (T.1 && freeT T.2 l i && readyAt T.2 l i) && preOk T ds r (l.set i true) l'
 | _ :: _, _, _ => false
section
variable {P : Program} {md : Region.Mode} {ops : Array Oper} {Q : Exit → Act → World → Prop} {S : World → Prop} {ds : List Nat}
def GoK (P : Program) (ops : Array Oper) (S : World → Prop) : List Stg → (Act → Prop) → Act → Prop
 | .t i :: r, K, a => ∃ oi v b, ops[i]? = some oi ∧ YieldsIf P ops S oi v a ∧ a.put oi.dst v = b ∧ GoK P ops S r K b
 | .p i :: r, K, a => ∃ oi v b, ops[i]? = some oi ∧ Yields P ops oi v a ∧ a.put oi.dst v = b ∧ GoK P ops S r K b
 | [], K, a => K a
 | _ :: _, _, _ => False
theorem run_sound {T : Bool × List (List Nat × List Nat)} (HT : rtab md ops = T) (hQ : ∀ c d v a w, Q (.panic c) (a.put d v) w → Q (.panic c) a w) (l' : Array Bool) (fuel : Nat) (w : World) (hS : S w) :
  ∀ (plan : List Stg) (l : Array Bool) (a : Act), preOk T ds plan l.toList l'.toList = true → GoK P ops S plan (fun b => wpAnyLast P md ops Q S ds fuel l' b w) a → wpAnyLast P md ops Q S ds (plan.length + fuel) l a w
 | [], l, a, hc, h => by
  simp only [preOk, beq_iff_eq] at hc
  have e : l = l' := Array.ext' hc
  subst e
  show wpAnyLast P md ops Q S ds (0 + fuel) l a w
  rw [Nat.zero_add]
  exact h
 | .t i :: r, l, a, hc, h => by
  simp only [preOk, Bool.and_eq_true] at hc
  obtain ⟨⟨⟨⟨⟨h2, h3⟩, h4⟩, h5⟩, h6⟩, h7⟩ := hc
  obtain ⟨oi, v, b, hi, hy, rfl, hk⟩ := h
  rw [show (Stg.t i :: r).length + fuel = (r.length + fuel) + 1 by simp only [List.length_cons]; omega]
  refine take_ (l.setIfInBounds i true) hi rfl (take_of HT ?_) (fun c a w => hQ c _ v a w) hy hS rfl (run_sound HT hQ l' fuel w hS r _ _ (by rw [set_toList]; exact h7) hk)
  simp only [takeT, Bool.and_eq_true]
  exact ⟨⟨⟨⟨⟨h2, h3⟩, h4⟩, h5⟩, h6⟩, set_self l i⟩
 | .p i :: r, l, a, hc, h => by
  simp only [preOk, Bool.and_eq_true] at hc
  obtain ⟨⟨⟨h2, h3⟩, h4⟩, h7⟩ := hc
  obtain ⟨oi, v, b, hi, hy, rfl, hk⟩ := h
  rw [show (Stg.p i :: r).length + fuel = (r.length + fuel) + 1 by simp only [List.length_cons]; omega]
  refine pure_ (l.setIfInBounds i true) hi rfl (any_of HT ?_) (fun c a w => hQ c _ v a w) hy rfl (run_sound HT hQ l' fuel w hS r _ _ (by rw [set_toList]; exact h7) hk)
  simp only [anyT, Bool.and_eq_true]
  exact ⟨⟨⟨h2, h3⟩, h4⟩, set_self l i⟩
 | .o i :: r, l, a, hc, h => by cases hc
 | .z i :: r, l, a, hc, h => by cases hc
/-- a stretch of a region: what yields in any order, in one go -/
theorem run_ {T : Bool × List (List Nat × List Nat)} {l : Array Bool} {n : Nat} {a : Act} {w : World} (plan : List Stg) (fuel : Nat) (l' : Array Bool) (HT : rtab md ops = T) (hQ : ∀ c d v a w, Q (.panic c) (a.put d v) w → Q (.panic c) a w) (hS : S w) (hn : n = plan.length + fuel)
  (hc : preOk T ds plan l.toList l'.toList = true) (h : GoK P ops S plan (fun b => wpAnyLast P md ops Q S ds fuel l' b w) a) : wpAnyLast P md ops Q S ds n l a w := by
 subst hn
 exact run_sound HT hQ l' fuel w hS plan l a hc h
variable {r : List Stg} {i : Nat} {a : Act} {N : Option Tmp} {op : Op} {ty : TypeId} {ps : String} {af : Array Edge} {gd : Option (Nat × Bool)} {K : Act → Prop}
theorem kt_ {v : Value} {b : Act} (hi : ops[i]? = some ⟨N, op, ty, ps, af, gd⟩) (hy : YieldsIf P ops S ⟨N, op, ty, ps, af, gd⟩ v a) (ha : a.put N v = b) (h : GoK P ops S r K b) : GoK P ops S (.t i :: r) K a := ⟨_, v, b, hi, hy, ha, h⟩
theorem kp_ {v : Value} {b : Act} (hi : ops[i]? = some ⟨N, op, ty, ps, af, gd⟩) (hy : Yields P ops ⟨N, op, ty, ps, af, gd⟩ v a) (ha : a.put N v = b) (h : GoK P ops S r K b) : GoK P ops S (.p i :: r) K a := ⟨_, v, b, hi, hy, ha, h⟩
theorem kd_ (h : K a) : GoK P ops S [] K a := h
end
end Go.Proofs.YtamhkdlcoghdbaaGreatDoor.PCls
/- Out of ZShelf (wip/tools/prune2.py): the declarations alone that the texts of the trees name. -/
/-
 DERIVED: THE SHELF's CONTRACTS AT THIS DUMP, IN PLAIN WORDS (tools/lay-plain.mjs out of 'YtamhkdlcoghdbaaGreatDoorShelf.lean', which tools/lay-shelf.mjs wrote): THE SAME DECLARATIONS UNDER THE SAME NAMES: 'import', 'namespace', 'open', 'def', 'theorem' AND NOTHING ELSE: no command of the shelf's: FOR A HAND-IN. Each laying: the table of numbers ('.._ren') and one theorem, a field a fact of the dump's own or the kernel's comparison; each contract: ONE APPLICATION.
-/
namespace Go.Proofs
open Go.Shelf
def Tryz.sort157_ren : Go.Shelf.Ren := ⟨fun | 6 => 157 | 15 => 196 | 14 => 195 | 28 => 221 | 29 => 222 | 20 => 213 | 21 => 214 | 22 => 215 | 23 => 216 | 24 => 217 | 25 => 218 | 26 => 219 | 27 => 220 | 46 => 234 | 47 => 235 | 48 => 236 | 49 => 237 | 50 => 238 | 57 => 245 | n => n, fun | 22 => 35 | 24 => 39 | 25 => 198 | 3 => 3 | 39 => 178 | 0 => 0 | 53 => 213 | 55 => 216 | 4 => 4 | 46 => 239 | 45 => 238 | 50 => 243 | 5 => 5 | 9 => 9 | 66 => 257 | 70 => 261 | 76 => 266 | 77 => 80 | n => n, fun | n => n⟩
theorem Tryz.sort157 : Go.Proofs.SlLaysF0.n6 Tryz.prog Tryz.sort157_ren := {
 mixed := by kernel_rfl
 f6 := ⟨Tryz.f157.name, by decide, Tryz.func157.trans (congrArg some (by kernel_rfl))⟩
 f14 := ⟨Tryz.f195.name, by decide, Tryz.func195.trans (congrArg some (by kernel_rfl))⟩
 f15 := Tryz.func196.trans (congrArg some (by kernel_rfl))
 f20 := ⟨Tryz.f213.name, by decide, Tryz.func213.trans (congrArg some (by kernel_rfl))⟩
 f21 := ⟨Tryz.f214.name, by decide, Tryz.func214.trans (congrArg some (by kernel_rfl))⟩
 f22 := ⟨Tryz.f215.name, by decide, Tryz.func215.trans (congrArg some (by kernel_rfl))⟩
 f23 := ⟨Tryz.f216.name, by decide, Tryz.func216.trans (congrArg some (by kernel_rfl))⟩
 f24 := ⟨Tryz.f217.name, by decide, Tryz.func217.trans (congrArg some (by kernel_rfl))⟩
 f25 := ⟨Tryz.f218.name, by decide, Tryz.func218.trans (congrArg some (by kernel_rfl))⟩
 f26 := ⟨Tryz.f219.name, by decide, Tryz.func219.trans (congrArg some (by kernel_rfl))⟩
 f27 := ⟨Tryz.f220.name, by decide, Tryz.func220.trans (congrArg some (by kernel_rfl))⟩
 f28 := Tryz.func221.trans (congrArg some (by kernel_rfl))
 f29 := Tryz.func222.trans (congrArg some (by kernel_rfl))
 f46 := ⟨Tryz.f234.name, by decide, Tryz.func234.trans (congrArg some (by kernel_rfl))⟩
 f47 := Tryz.func235.trans (congrArg some (by kernel_rfl))
 f48 := Tryz.func236.trans (congrArg some (by kernel_rfl))
 f49 := ⟨Tryz.f237.name, by decide, Tryz.func237.trans (congrArg some (by kernel_rfl))⟩
 f50 := ⟨Tryz.f238.name, by decide, Tryz.func238.trans (congrArg some (by kernel_rfl))⟩
 f57 := ⟨Tryz.f245.name, by decide, Tryz.func245.trans (congrArg some (by kernel_rfl))⟩
 t0 := Tryz.underlying0
 a0 := Tryz.isAgg0
 z0 := Tryz.sizeOf0
 v0 := Tryz.zeroValue0
 t3 := Tryz.underlying3
 a3 := Tryz.isAgg3
 z3 := Tryz.sizeOf3
 v3 := Tryz.zeroValue3
 t4 := Tryz.underlying4
 a4 := Tryz.isAgg4
 z4 := Tryz.sizeOf4
 v4 := Tryz.zeroValue4
 t5 := Tryz.underlying5
 a5 := Tryz.isAgg5
 z5 := Tryz.sizeOf5
 v5 := Tryz.zeroValue5
 t9 := Tryz.underlying9
 a9 := Tryz.isAgg9
 z9 := Tryz.sizeOf9
 v9 := Tryz.zeroValue9
 t22 := Tryz.underlying35
 a22 := Tryz.isAgg35
 z22 := Tryz.sizeOf35
 v22 := Tryz.zeroValue35
 t25 := Tryz.underlying198
 a25 := Tryz.isAgg198
 z25 := Tryz.sizeOf198
 v25 := Tryz.zeroValue198
 t39 := Tryz.underlying178
 a39 := Tryz.isAgg178
 z39 := Tryz.sizeOf178
 v39 := Tryz.zeroValue178
 t45 := Tryz.underlying238
 a45 := Tryz.isAgg238
 z45 := Tryz.sizeOf238
 v45 := Tryz.zeroValue238
 t46 := Tryz.underlying239
 a46 := Tryz.isAgg239
 z46 := Tryz.sizeOf239
 v46 := Tryz.zeroValue239
 t50 := Tryz.underlying243
 a50 := Tryz.isAgg243
 z50 := Tryz.sizeOf243
 v50 := Tryz.zeroValue243
 t53 := Tryz.underlying213
 a53 := Tryz.isAgg213
 z53 := Tryz.sizeOf213
 v53 := Tryz.zeroValue213
 t55 := Tryz.underlying216
 a55 := Tryz.isAgg216
 z55 := Tryz.sizeOf216
 v55 := Tryz.zeroValue216
 t66 := Tryz.underlying257
 a66 := Tryz.isAgg257
 z66 := Tryz.sizeOf257
 v66 := Tryz.zeroValue257
 t70 := Tryz.underlying261
 a70 := Tryz.isAgg261
 z70 := Tryz.sizeOf261
 v70 := Tryz.zeroValue261
 t76 := Tryz.underlying266
 a76 := Tryz.isAgg266
 z76 := Tryz.sizeOf266
 v76 := Tryz.zeroValue266
 t77 := Tryz.underlying80
 a77 := Tryz.isAgg80
 z77 := Tryz.sizeOf80
 v77 := Tryz.zeroValue80 }
def Tryz.index194_ren : Go.Shelf.Ren := ⟨fun | 6 => 194 | n => n, fun | 22 => 35 | 23 => 39 | 25 => 195 | 3 => 3 | 0 => 0 | 4 => 4 | n => n, fun | n => n⟩
theorem Tryz.index194 : Go.Proofs.SlLaysH0.n6 Tryz.prog Tryz.index194_ren := {
 mixed := by kernel_rfl
 f6 := ⟨Tryz.f194.name, by decide, Tryz.func194.trans (congrArg some (by kernel_rfl))⟩
 t0 := Tryz.underlying0
 a0 := Tryz.isAgg0
 z0 := Tryz.sizeOf0
 v0 := Tryz.zeroValue0
 t3 := Tryz.underlying3
 a3 := Tryz.isAgg3
 z3 := Tryz.sizeOf3
 v3 := Tryz.zeroValue3
 t4 := Tryz.underlying4
 a4 := Tryz.isAgg4
 z4 := Tryz.sizeOf4
 v4 := Tryz.zeroValue4
 t22 := Tryz.underlying35
 a22 := Tryz.isAgg35
 z22 := Tryz.sizeOf35
 v22 := Tryz.zeroValue35
 t25 := Tryz.underlying195
 a25 := Tryz.isAgg195
 z25 := Tryz.sizeOf195
 v25 := Tryz.zeroValue195 }
def Tryz.cmp159_ren : Go.Shelf.Ren := ⟨fun | 5 => 159 | 7 => 197 | n => n, fun | 22 => 3 | 3 => 3 | 4 => 4 | n => n, fun | n => n⟩
theorem Tryz.cmp159 : Go.Proofs.SlLaysC2.n5 Tryz.prog Tryz.cmp159_ren := {
 mixed := by kernel_rfl
 f5 := ⟨Tryz.f159.name, by decide, Tryz.func159.trans (congrArg some (by kernel_rfl))⟩
 f7 := ⟨Tryz.f197.name, by decide, Tryz.func197.trans (congrArg some (by kernel_rfl))⟩
 t3 := Tryz.underlying3
 a3 := Tryz.isAgg3
 z3 := Tryz.sizeOf3
 v3 := Tryz.zeroValue3
 t4 := Tryz.underlying4
 a4 := Tryz.isAgg4
 z4 := Tryz.sizeOf4
 v4 := Tryz.zeroValue4
 t22 := Tryz.underlying3
 a22 := Tryz.isAgg3
 z22 := Tryz.sizeOf3
 v22 := Tryz.zeroValue3 }
end Go.Proofs
