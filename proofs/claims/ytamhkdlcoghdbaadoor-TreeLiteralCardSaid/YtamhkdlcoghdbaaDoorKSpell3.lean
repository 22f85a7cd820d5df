/- Plain laws of TreeSpells: what Literal tells is right; the characters of two texts. -/
import Derived.Test.YtamhkdlcoghdbaaDoorKMTAltG
import Derived.Test.YtamhkdlcoghdbaaDoorKMYPClsx7
import Derived.Lib.TrimUEq
namespace Go.Proofs.YtamhkdlcoghdbaaDoor.PCls
set_option linter.unusedVariables false
set_option linter.unusedSimpArgs false

theorem norm_of (l : List S64) (m : Bool) (hc : Cls.Can l) (h : ∀ c, Cls.Mem l c → Cls.Mem (Cls.all m) c) : l = Cls.norm l m :=
 Cls.can_unique l _ hc (Cls.and_can _ _) fun c => by
  unfold Cls.norm
  rw [Cls.and_mem]
  exact ⟨fun x => ⟨x, h c x⟩, fun x => x.1⟩
theorem fold_fold (l : List S64) : Cls.fold (Cls.fold l) = Cls.fold l := by
 refine Cls.can_unique _ _ (Cls.fold_can _) (Cls.fold_can _) fun c => ?_
 rw [Cls.fold_mem (Cls.fold l)]
 refine ⟨?_, Or.inl⟩
 rintro (h | ⟨h, h1, h2⟩ | ⟨h, h1, h2⟩)
 ·exact h
 ·rw [Cls.fold_mem] at h ⊢
  rcases h with h | ⟨h, h3, h4⟩ | ⟨h, h3, h4⟩
  ·exact .inr (.inl ⟨h, h1, h2⟩)
  ·omega
  ·rw [show c - 32 + 32 = c by omega] at h; exact .inl h
 ·rw [Cls.fold_mem] at h ⊢
  rcases h with h | ⟨h, h3, h4⟩ | ⟨h, h3, h4⟩
  ·exact .inr (.inr ⟨h, h1, h2⟩)
  ·rw [show c + 32 - 32 = c by omega] at h; exact .inl h
  ·omega
theorem all_mem (m : Bool) (c : Int) : Cls.Mem (Cls.all m) c ↔ (if m = true then (0 ≤ c ∧ c ≤ 55295) ∨ (57344 ≤ c ∧ c ≤ 1114111) else 0 ≤ c ∧ c ≤ 255) := by
 cases m
 ·simp [Cls.all, Cls.Mem]
 ·simp [Cls.all, Cls.Mem]
theorem litR_mem (fold : Bool) (c x : Int) (h : Cls.Mem (litR fold c) x) : x = c ∨ (65 ≤ x ∧ x ≤ 122) := by
 unfold litR at h
 split at h
 ·rw [Cls.fold_mem] at h
  rcases h with h | ⟨h, h3, h4⟩ | ⟨h, h3, h4⟩
  ·rw [mem_one] at h; omega
  ·omega
  ·omega
 ·rw [mem_one] at h; omega
theorem litR_can (fold : Bool) (c : Int) : Cls.Can (litR fold c) := by
 unfold litR
 split
 ·exact Cls.fold_can _
 ·exact can_one c c (Int.le_refl c)
theorem litR_ok (chars fold : Bool) (c : Int) (h : Cls.Mem (Cls.all chars) c) : setOk (litR fold c) chars fold = true := by
 have h1 : litR fold c = Cls.norm (litR fold c) chars := norm_of _ _ (litR_can fold c) fun x hx => by
  rcases litR_mem fold c x hx with rfl | hx
  ·exact h
  ·rw [all_mem]; split <;> omega
 have h2 : fold = true → Cls.fold (litR fold c) = litR fold c := fun hf => by
  subst hf
  exact fold_fold _
 unfold setOk
 rw [Bool.and_eq_true]
 refine ⟨decide_eq_true h1, ?_⟩
 cases hf : fold
 ·rfl
 ·subst hf; simpa using h2 rfl

/-- a set that may stand in a tree -/
def Leaf (chars fold : Bool) (t : NT) : Prop := ∃ r, t = .mk 2 0 0 0 r [] ∧ setOk r chars fold = true
theorem leaf_lit (chars fold : Bool) (c : Int) (h : Cls.Mem (Cls.all chars) c) : Leaf chars fold (litNT fold c) := ⟨_, rfl, litR_ok chars fold c h⟩
theorem leaf_formed {chars fold : Bool} {r : List S64} (h : setOk r chars fold = true) : formed (.mk 2 0 0 0 r []) chars fold = true := by
 simp [formed, NT.k, NT.r, NT.kids, NT.m, NT.lo, NT.hi, h]
theorem run_leaf {chars fold : Bool} {t : NT} (h : Leaf chars fold t) (d a : Int) (f l b : Bool) (hd : d ≤ 40) (ha : a = 0 ∨ a = 5) (many : Int) (hm : many < 2000) :
  run (visR chars fold) lvR (evs t d a f l b) ⟨0, many, 0, []⟩ = (true, ⟨0, many + 1, 0, []⟩) := by
 obtain ⟨r, rfl, hr⟩ := h
 have hf := leaf_formed hr
 have hs : stands ⟨.mk 2 0 0 0 r [], d, a, f, l, b⟩ = true := by
  rcases ha with rfl | rfl <;> simp [stands, NT.k, thing]
 have hv : visR chars fold ⟨0, many, 0, []⟩ ⟨.mk 2 0 0 0 r [], d, a, f, l, b⟩ = (true, ⟨0, many + 1, 0, []⟩) := by
  unfold visR
  simp only
  rw [if_neg (by omega), if_neg (by omega), hs, hf, if_neg (by simp), if_neg (by simp [NT.k]), if_neg (by simp [NT.k])]
  simp
 simp only [evs, evsL, List.nil_append]
 rw [run_enter (by rw [hv]), hv]
 simp [run, lvR, NT.k]
theorem run_leaves {chars fold : Bool} (n : Nat) (b : Bool) : ∀ (l : List NT) (i : Nat) (many : Int), (∀ t, t ∈ l → Leaf chars fold t) → many + l.length ≤ 2000 →
  run (visR chars fold) lvR (evsL l 2 5 n i b) ⟨0, many, 0, []⟩ = (true, ⟨0, many + l.length, 0, []⟩)
 | [], i, many, _, _ => by simp [evsL, run]
 | t :: l, i, many, h, hm => by
  have hl : ((t :: l).length : Int) = l.length + 1 := by simp
  rw [hl] at hm ⊢
  have h1 := run_leaf (h t List.mem_cons_self) 2 5 (decide (i = 0)) (decide (i + 1 = n)) b (by omega) (.inr rfl) many (by omega)
  have h2 := run_leaves n b l (i + 1) (many + 1) (fun x hx => h x (List.mem_cons_of_mem _ hx)) (by omega)
  simp only [evsL]
  rw [(run_append _ _ _ _ _).1 (by rw [h1]), h1, h2]
  simp; omega
theorem right_sets {chars fold : Bool} (l : List NT) (h : ∀ t, t ∈ l → Leaf chars fold t) (hl : l.length ≤ 1999) : rightT (catT l) chars fold = 0 := by
 have hp : ∀ t, t ∈ l → t.k ≠ 1 ∧ t.k ≠ 5 := fun t ht => by obtain ⟨r, rfl, _⟩ := h t ht; simp [NT.k]
 have hc : catT l = oneT l 5 (.mk 1 0 0 0 [] []) := by unfold catT; rw [catOut_plain l hp]
 rw [hc]
 match l, h, hl with
 | [], _, _ => simp [oneT, rightT, Step.top, Step.evs, evs, evsL, run, visR, stands, formed, NT.k, NT.kids, NT.r, NT.m, NT.lo, NT.hi, lvR]
 | [x], h, _ =>
  show rightT x chars fold = 0
  have h1 := run_leaf (h x List.mem_cons_self) 1 0 true true true (by omega) (.inl rfl) 0 (by omega)
  unfold rightT Step.evs Step.top
  simp only
  rw [h1]
 | x :: y :: l, h, hl =>
  show rightT (.mk 5 0 0 0 [] (x :: y :: l)) chars fold = 0
  have hv : visR chars fold ⟨0, 0, 0, []⟩ ⟨.mk 5 0 0 0 [] (x :: y :: l), 1, 0, true, true, true⟩ = (true, ⟨0, 1, 0, []⟩) := by
   simp [visR, stands, formed, NT.k, NT.kids, NT.r, NT.m, NT.lo, NT.hi]
  have h2 := run_leaves (chars := chars) (fold := fold) (x :: y :: l).length (branchOf 5 true) (x :: y :: l) 0 1 h (by simp at hl ⊢; omega)
  unfold rightT Step.evs Step.top
  simp only [evs]
  rw [run_enter (by rw [hv]), hv]
  simp only [Int.reduceAdd]
  rw [(run_append _ _ _ _ _).1 (by rw [h2]), h2]
  simp [run, lvR, NT.k]
theorem catT_units (l : List NT) (h : ∀ t, t ∈ l → t.k ≠ 1 ∧ t.k ≠ 5) (hn : NT.nodesL l = l.length) (hl : l.length ≤ 1999) : (catT l).nodes ≤ 2000 := by
 have := catT_nodes l
 omega

/-! ### the characters of two texts -/
set_option maxRecDepth 100000 in
set_option maxHeartbeats 4000000 in
theorem decodeN_keep (n n' b0 b1 b2 b3 c1 c2 c3 : Nat) (hn : 1 ≤ n) (hnn : n ≤ n') (hok : (Lib.decodeN n b0 b1 b2 b3).1 ≠ 65533 ∨ 1 < (Lib.decodeN n b0 b1 b2 b3).2)
  (e1 : 1 < n → c1 = b1) (e2 : 2 < n → c2 = b2) (e3 : 3 < n → c3 = b3) : Lib.decodeN n' b0 c1 c2 c3 = Lib.decodeN n b0 b1 b2 b3 ∧ (Lib.decodeN n b0 b1 b2 b3).2 ≤ n := by
 by_cases h0 : b0 < 128
 ·simp only [Lib.decodeN, if_pos h0]
  exact ⟨trivial, hn⟩
 ·have hw : (Lib.decodeN n b0 b1 b2 b3).2 ≤ n ∧ 1 < (Lib.decodeN n b0 b1 b2 b3).2 := by
   unfold Lib.decodeN at hok ⊢
   rw [if_neg h0] at hok ⊢
   repeat' split at hok
   all_goals first
    | (exfalso; simp at hok; done)
    | (simp_all; omega)
    | simp_all
  refine ⟨?_, hw.1⟩
  obtain ⟨k, hk⟩ : ∃ k, (Lib.decodeN n b0 b1 b2 b3).2 = k := ⟨_, rfl⟩
  rw [hk] at hw
  have h1 : Lib.decodeN k b0 b1 b2 b3 = Lib.decodeN n b0 b1 b2 b3 := by
   unfold Lib.decodeN at hk ⊢
   rw [if_neg h0] at hk ⊢
   rw [if_neg h0]
   repeat' split at hk
   all_goals first
    | (exfalso; simp at hk; omega)
    | (simp at hk; subst hk; simp_all; done)
    | (simp at hk; subst hk; simp_all; omega)
  rw [← h1]
  exact Lib.decodeN_more k n' b0 b1 b2 b3 c1 c2 c3 (by omega) (by omega) (by rw [h1]; exact hk) (fun h => e1 (by omega)) (fun h => e2 (by omega)) (fun h => e3 (by omega))
theorem append_list (a b : ByteArray) : (a ++ b).data.toList = a.data.toList ++ b.data.toList := by simp
theorem getD_left (a b : List UInt8) (i : Nat) (h : i < a.length) : (a ++ b).getD i 0 = a.getD i 0 := by
 simp only [List.getD_eq_getElem?_getD, List.getElem?_append_left h]
theorem getD_right (a b : List UInt8) (i : Nat) : (a ++ b).getD (a.length + i) 0 = b.getD i 0 := by
 simp only [List.getD_eq_getElem?_getD]
 rw [List.getElem?_append_right (by omega)]
 simp
theorem dec_left (a b : ByteArray) (p : Nat) (hp : p < a.size) (hok : okAt a p = true) : Utf8.decode (a ++ b) p = Utf8.decode a p ∧ p + (Utf8.decode a p).2 ≤ a.size := by
 have hs : a.data.toList.length = a.size := (Lib.size_eq a).symm
 unfold okAt at hok
 rw [decide_eq_true_eq, Lib.decode_N] at hok
 rw [Lib.decode_N (a ++ b), append_list, Lib.decode_N a]
 rw [getD_left _ _ p (by omega)]
 have h := decodeN_keep (a.data.toList.length - p) ((a.data.toList ++ b.data.toList).length - p) (a.data.toList.getD p 0).toNat (a.data.toList.getD (p + 1) 0).toNat (a.data.toList.getD (p + 2) 0).toNat (a.data.toList.getD (p + 3) 0).toNat
  ((a.data.toList ++ b.data.toList).getD (p + 1) 0).toNat ((a.data.toList ++ b.data.toList).getD (p + 2) 0).toNat ((a.data.toList ++ b.data.toList).getD (p + 3) 0).toNat
  (by omega) (by rw [List.length_append]; omega) hok (fun h => by rw [getD_left _ _ _ (by omega)]) (fun h => by rw [getD_left _ _ _ (by omega)]) (fun h => by rw [getD_left _ _ _ (by omega)])
 exact ⟨h.1, by have := h.2; omega⟩
theorem dec_right (a b : ByteArray) (q : Nat) : Utf8.decode (a ++ b) (a.size + q) = Utf8.decode b q := by
 have hs : a.data.toList.length = a.size := (Lib.size_eq a).symm
 rw [Lib.decode_N (a ++ b), append_list, Lib.decode_N b, ← hs, Nat.add_assoc, Nat.add_assoc, Nat.add_assoc, getD_right, getD_right, getD_right, getD_right, List.length_append]
 congr 1
 omega
theorem size_append' (a b : ByteArray) : (a ++ b).size = a.size + b.size := ByteArray.size_append
theorem runes_right (a b : ByteArray) : ∀ k q, runesFrom (a ++ b) k (a.size + q) = runesFrom b k q
 | 0, q => rfl
 | k + 1, q => by
  simp only [runesFrom, dec_right, size_append']
  by_cases h : q < b.size
  ·rw [if_pos h, if_pos (by omega), Nat.add_assoc, runes_right a b k]
  ·rw [if_neg h, if_neg (by omega)]
theorem bad_right (a b : ByteArray) : ∀ k q, badFrom (a ++ b) k (a.size + q) = a.size + badFrom b k q
 | 0, q => by simp only [badFrom, size_append']
 | k + 1, q => by
  have ho : okAt (a ++ b) (a.size + q) = okAt b q := by unfold okAt; rw [dec_right]
  simp only [badFrom, dec_right, size_append', ho]
  by_cases h : q < b.size
  ·rw [if_pos h, if_pos (by omega), Nat.add_assoc, bad_right a b k]
   split <;> rfl
  ·rw [if_neg h, if_neg (by omega)]
theorem two_left (a b : ByteArray) : ∀ (k : Nat) (p : Nat), p ≤ a.size → a.size < p + k → badFrom a k p = a.size →
  runesFrom (a ++ b) (k + b.size) p = runesFrom a k p ++ runesFrom b (b.size + 1) 0 ∧ badFrom (a ++ b) (k + b.size) p = a.size + badFrom b (b.size + 1) 0
 | 0, p, h1, h2, _ => by omega
 | k + 1, p, h1, h2, hb => by
  by_cases hp : p < a.size
  ·simp only [badFrom, if_pos hp] at hb
   have hok : okAt a p = true := by
    cases ho : okAt a p
    ·rw [ho, if_neg (by simp)] at hb; omega
    ·rfl
   rw [if_pos hok] at hb
   obtain ⟨e, hle⟩ := dec_left a b p hp hok
   have hw := Lib.width_pos a p
   obtain ⟨i1, i2⟩ := two_left a b k _ hle (by omega) hb
   have hok2 : okAt (a ++ b) p = true := by unfold okAt at hok ⊢; rw [e]; exact hok
   rw [show k + 1 + b.size = (k + b.size) + 1 by omega]
   have r1 : runesFrom (a ++ b) (k + b.size + 1) p = if p < (a ++ b).size then (Utf8.decode (a ++ b) p).1 :: runesFrom (a ++ b) (k + b.size) (p + (Utf8.decode (a ++ b) p).2) else [] := rfl
   have r2 : badFrom (a ++ b) (k + b.size + 1) p = if p < (a ++ b).size then (if okAt (a ++ b) p then badFrom (a ++ b) (k + b.size) (p + (Utf8.decode (a ++ b) p).2) else p) else (a ++ b).size := rfl
   have r3 : runesFrom a (k + 1) p = if p < a.size then (Utf8.decode a p).1 :: runesFrom a k (p + (Utf8.decode a p).2) else [] := rfl
   rw [r1, r2, r3, e, size_append', if_pos hp, if_pos (show p < a.size + b.size by omega), if_pos (show p < a.size + b.size by omega), if_pos hok2, i1, i2]
   exact ⟨rfl, rfl⟩
  ·obtain rfl : p = a.size := by omega
   have r1 : runesFrom (a ++ b) (k + 1 + b.size) a.size = _ := runes_right a b (k + 1 + b.size) 0
   have r2 : badFrom (a ++ b) (k + 1 + b.size) a.size = _ := bad_right a b (k + 1 + b.size) 0
   rw [r1, r2, runesFrom_end a (k + 1) a.size hp, List.nil_append, runesFrom_fuel b (k + 1 + b.size) (b.size + 1) 0 (by omega) (by omega), badFrom_fuel b (k + 1 + b.size) (b.size + 1) 0 (by omega) (by omega)]
   exact ⟨rfl, rfl⟩
/-- of two texts that are none wrong: the characters of both, one behind the other -/
theorem runes_two (a b : ByteArray) (ha : ¬ badFrom a (a.size + 1) 0 < a.size) (hb : ¬ badFrom b (b.size + 1) 0 < b.size) :
  runesFrom (a ++ b) ((a ++ b).size + 1) 0 = runesFrom a (a.size + 1) 0 ++ runesFrom b (b.size + 1) 0 ∧ ¬ badFrom (a ++ b) ((a ++ b).size + 1) 0 < (a ++ b).size := by
 have h1 := badFrom_le a (a.size + 1) 0
 have h2 := two_left a b (a.size + 1) 0 (Nat.zero_le _) (by omega) (by rcases h1 with h | h <;> omega)
 rw [size_append', show a.size + b.size + 1 = a.size + 1 + b.size by omega]
 refine ⟨h2.1, ?_⟩
 rw [h2.2]
 omega
set_option maxHeartbeats 4000000 in
theorem rune_char (s : ByteArray) (p : Nat) : Cls.Mem (Cls.all true) ((Utf8.decode s p).1 : Nat) := by
 rw [all_mem, if_pos rfl]
 rw [Lib.decode_at]
 have h0 : (s.get! p).toNat < 256 := UInt8.toNat_lt _
 generalize (s.get! p).toNat = b0 at h0 ⊢
 unfold Lib.decodeN
 repeat' split
 all_goals (simp only; omega)
theorem runes_char (s : ByteArray) : ∀ k p x, x ∈ runesFrom s k p → Cls.Mem (Cls.all true) (x : Int)
 | 0, p, x, h => by simp [runesFrom] at h
 | k + 1, p, x, h => by
  simp only [runesFrom] at h
  split at h
  ·rcases List.mem_cons.1 h with rfl | h
   ·exact rune_char s p
   ·exact runes_char s k _ x h
  ·cases h
end Go.Proofs.YtamhkdlcoghdbaaDoor.PCls
