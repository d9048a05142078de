/-
  THE LOWER BOUND of GossipNeeds, in plain numbers: with fewer calls than the plan has, not all of up to six know all. By a search over states that are maximal under 'contained in, up to a renaming'; its tables: GossipTab. CONDITIONS: none.
-/
import Derived.Test.YtdocdmpfokdjkaaDoorGossipTab
namespace Go.Proofs.YtdocdmpfokdjkaaDoor

def gStep (s : List Nat) (a b : Nat) : List Nat := (s.set a (s.getD a 0 ||| s.getD b 0)).set b (s.getD a 0 ||| s.getD b 0)
theorem gStep_length (s : List Nat) (a b : Nat) : (gStep s a b).length = s.length := by simp [gStep]
theorem gStep_get {s : List Nat} {a b i : Nat} (ha : a < s.length) (hb : b < s.length) : (gStep s a b).getD i 0 = if i = a ∨ i = b then s.getD a 0 ||| s.getD b 0 else s.getD i 0 := by
  unfold gStep
  simp only [List.getD, List.getElem?_set, List.length_set]
  by_cases h1 : b = i
  · subst h1
    rw [if_pos rfl, if_pos hb, if_pos (.inr rfl)]
    rfl
  · rw [if_neg h1]
    by_cases h2 : a = i
    · subst h2
      rw [if_pos rfl, if_pos ha, if_pos (.inl rfl)]
      rfl
    · rw [if_neg h2, if_neg (by rintro (h | h); exact h2 h.symm; exact h1 h.symm)]

/-- contained, up to a renaming -/
def Dom (n : Nat) (s u : List Nat) : Prop :=
  ∃ p : Nat → Nat, (∀ i, i < n → p i < n) ∧ (∀ i j, i < n → j < n → p i = p j → i = j) ∧ ∀ i, i < n → ∀ j, j < n → (s.getD i 0).testBit j = true → (u.getD (p i) 0).testBit (p j) = true
theorem Dom.trans {n : Nat} {s u v : List Nat} (h : Dom n s u) (k : Dom n u v) : Dom n s v := by
  obtain ⟨p, h1, h2, h3⟩ := h
  obtain ⟨q, k1, k2, k3⟩ := k
  exact ⟨fun i => q (p i), fun i hi => k1 _ (h1 i hi), fun i j hi hj he => h2 i j hi hj (k2 _ _ (h1 i hi) (h1 j hj) he), fun i hi j hj hb => k3 _ (h1 i hi) _ (h1 j hj) (h3 i hi j hj hb)⟩
theorem Dom.refl (n : Nat) (s : List Nat) : Dom n s s := ⟨id, fun _ h => h, fun _ _ _ _ h => h, fun _ _ _ _ h => h⟩
theorem Dom.swap {n : Nat} {u : List Nat} {a b : Nat} (hu : u.length = n) (ha : a < n) (hb : b < n) : Dom n (gStep u a b) (gStep u b a) := by
  refine ⟨id, fun _ h => h, fun _ _ _ _ h => h, fun i _ j _ h => ?_⟩
  rw [gStep_get (by omega) (by omega)] at h
  simp only [id]
  rw [gStep_get (by omega) (by omega)]
  by_cases hc : i = a ∨ i = b
  · rw [if_pos hc] at h
    rw [if_pos hc.symm, Nat.or_comm]
    exact h
  · rw [if_neg hc] at h
    rw [if_neg (fun h => hc h.symm)]
    exact h
theorem Dom.step {n : Nat} {s u : List Nat} (h : Dom n s u) (hs : s.length = n) (hu : u.length = n) {a b : Nat} (ha : a < n) (hb : b < n) (hne : a ≠ b) : ∃ x y, x < n ∧ y < n ∧ x ≠ y ∧ Dom n (gStep s a b) (gStep u x y) := by
  obtain ⟨p, h1, h2, h3⟩ := h
  refine ⟨p a, p b, h1 a ha, h1 b hb, fun e => hne (h2 a b ha hb e), p, h1, h2, fun i hi j hj hbit => ?_⟩
  rw [gStep_get (by omega) (by omega)] at hbit
  rw [gStep_get (by have := h1 a ha; omega) (by have := h1 b hb; omega)]
  by_cases hc : i = a ∨ i = b
  · rw [if_pos hc, Nat.testBit_or, Bool.or_eq_true] at hbit
    rw [if_pos (by rcases hc with rfl | rfl; exact .inl rfl; exact .inr rfl), Nat.testBit_or, Bool.or_eq_true]
    exact hbit.imp (h3 a ha j hj) (h3 b hb j hj)
  · rw [if_neg hc] at hbit
    rw [if_neg (by rintro (e | e); exact hc (.inl (h2 i a hi ha e)); exact hc (.inr (h2 i b hi hb e)))]
    exact h3 i hi j hj hbit

/-- all know all -/
def Full (n : Nat) (s : List Nat) : Prop := ∀ i, i < n → ∀ j, j < n → (s.getD i 0).testBit j = true
theorem surj_of_inj : ∀ (n : Nat) (p : Nat → Nat), (∀ i, i < n → p i < n) → (∀ i j, i < n → j < n → p i = p j → i = j) → ∀ k, k < n → ∃ i, i < n ∧ p i = k := by
  intro n
  induction n with
  | zero => intro p _ _ k hk; omega
  | succ n ih =>
    intro p h1 h2 k hk
    have hm := h1 n (by omega)
    have hne : ∀ i, i < n → p i ≠ p n := fun i hi e => by have := h2 i n (by omega) (by omega) e; omega
    obtain hq := ih (fun i => if p i = n then p n else p i) (fun i hi => by
      have := h1 i (by omega)
      have := hne i hi
      split <;> omega) (fun i j hi hj he => by
      have a1 := hne i hi
      have a2 := hne j hj
      have a3 := h2 i j (by omega) (by omega)
      split at he <;> split at he
      · exact a3 (by omega)
      · exact absurd he.symm a2
      · exact absurd he a1
      · exact a3 he)
    by_cases hkm : k = p n
    · exact ⟨n, by omega, hkm.symm⟩
    · by_cases hkn : k = n
      · subst hkn
        obtain ⟨i, hi, he⟩ := hq (p k) (by omega)
        split at he
        · exact ⟨i, by omega, ‹_›⟩
        · exact absurd he (hne i hi)
      · obtain ⟨i, hi, he⟩ := hq k (by omega)
        split at he
        · exact absurd he.symm hkm
        · exact ⟨i, by omega, he⟩
theorem Dom.full {n : Nat} {s u : List Nat} (h : Dom n s u) (hs : Full n s) : Full n u := by
  obtain ⟨p, h1, h2, h3⟩ := h
  intro i hi j hj
  obtain ⟨i', hi', rfl⟩ := surj_of_inj n p h1 h2 i hi
  obtain ⟨j', hj', rfl⟩ := surj_of_inj n p h1 h2 j hj
  exact h3 i' hi' j' hj' (hs i' hi' j' hj')

/-! ### the search, checked -/
def pairsOf (n : Nat) : List (Nat × Nat) := (List.range n).flatMap fun i => (((List.range n).filter fun j => decide (i < j))).map fun j => (i, j)
def domB (n : Nat) (s u p : List Nat) : Bool :=
  ((List.range n).all fun i => decide (p.getD i n < n)) && ((List.range n).all fun i => (List.range n).all fun j => decide (i = j) || !decide (p.getD i n = p.getD j n)) &&
    ((List.range n).all fun i => (List.range n).all fun j => !(s.getD i 0).testBit j || (u.getD (p.getD i n) 0).testBit (p.getD j n))
theorem domB_sound {n : Nat} {s u p : List Nat} (h : domB n s u p = true) : Dom n s u := by
  simp only [domB, Bool.and_eq_true, List.all_eq_true, List.mem_range, decide_eq_true_eq, Bool.or_eq_true, Bool.not_eq_true', decide_eq_false_iff_not] at h
  obtain ⟨⟨h1, h2⟩, h3⟩ := h
  refine ⟨fun i => p.getD i n, h1, fun i j hi hj he => ?_, fun i hi j hj hb => ?_⟩
  · rcases h2 i hi j hj with h | h
    · exact h
    · exact absurd he h
  · rcases h3 i hi j hj with h | h
    · rw [h] at hb; cases hb
    · exact h
def fullB (n : Nat) (s : List Nat) : Bool := (List.range n).all fun i => (List.range n).all fun j => (s.getD i 0).testBit j
theorem fullB_of {n : Nat} {s : List Nat} (h : Full n s) : fullB n s = true := by
  simp only [fullB, List.all_eq_true, List.mem_range]
  exact h
def succsOf (n : Nat) (L : List (List Nat)) : List (List Nat) := L.flatMap fun s => (pairsOf n).map fun c => gStep s c.1 c.2
def okL (n : Nat) (L : List (List Nat)) : Bool := L.all fun s => decide (s.length = n) && !fullB n s
def coverB (n : Nat) (L' : List (List Nat)) : List (List Nat) → List (Nat × List Nat) → Bool
  | [], _ => true
  | s :: r, w :: ws => decide (w.1 < L'.length) && domB n s (L'.getD w.1 []) w.2 && coverB n L' r ws
  | _ :: _, [] => false
theorem coverB_sound {n : Nat} {L' : List (List Nat)} : ∀ (S : List (List Nat)) (W : List (Nat × List Nat)), coverB n L' S W = true → ∀ s ∈ S, ∃ u ∈ L', Dom n s u
  | [], _, _, s, hs => by cases hs
  | s :: r, [], h, _, _ => by simp [coverB] at h
  | s :: r, w :: ws, h, x, hx => by
    simp only [coverB, Bool.and_eq_true, decide_eq_true_eq] at h
    rcases List.mem_cons.1 hx with rfl | hx
    · refine ⟨L'.getD w.1 [], ?_, domB_sound h.1.2⟩
      rw [List.getD, List.getElem?_eq_getElem h.1.1]
      exact List.getElem_mem _
    · exact coverB_sound r ws h.2 x hx
def checkFrom (n : Nat) : List (List (List Nat)) → List (List (Nat × List Nat)) → Bool
  | [], _ => true
  | [L], _ => okL n L
  | L :: L' :: r, W :: Ws => okL n L && coverB n L' (succsOf n L) W && checkFrom n (L' :: r) Ws
  | _ :: _ :: _, [] => false
theorem mem_pairsOf {n a b : Nat} (h : a < b) (hb : b < n) : (a, b) ∈ pairsOf n := by
  simp only [pairsOf, List.mem_flatMap, List.mem_range, List.mem_map, List.mem_filter, decide_eq_true_eq]
  exact ⟨a, by omega, b, ⟨hb, h⟩, rfl⟩
theorem checkFrom_ok {n : Nat} {L : List (List Nat)} {r : List (List (List Nat))} {Ws : List (List (Nat × List Nat))} (h : checkFrom n (L :: r) Ws = true) : okL n L = true := by
  match r, Ws, h with
  | [], _, h => exact h
  | L' :: r, W :: Ws, h =>
    simp only [checkFrom, Bool.and_eq_true] at h
    exact h.1.1
  | L' :: r, [], h => simp [checkFrom] at h
theorem search {n : Nat} : ∀ (cs : List (Nat × Nat)) (L : List (List Nat)) (r : List (List (List Nat))) (Ws : List (List (Nat × List Nat))) (s : List Nat), checkFrom n (L :: r) Ws = true → s.length = n → (∃ u ∈ L, Dom n s u) →
    (∀ c ∈ cs, c.1 < n ∧ c.2 < n ∧ c.1 ≠ c.2) → cs.length ≤ r.length → ¬ Full n (cs.foldl (fun s c => gStep s c.1 c.2) s)
  | [], L, r, Ws, s, h, hs, ⟨u, hu, hd⟩, _, _ => by
    intro hf
    have hok := checkFrom_ok h
    simp only [okL, List.all_eq_true, Bool.and_eq_true, Bool.not_eq_true'] at hok
    have := (hok u hu).2
    rw [fullB_of (hd.full hf)] at this
    cases this
  | c :: cs, L, [], Ws, s, h, hs, _, _, hl => by simp at hl
  | c :: cs, L, L' :: r, [], s, h, hs, _, _, hl => by simp [checkFrom] at h
  | c :: cs, L, L' :: r, W :: Ws, s, h, hs, ⟨u, hu, hd⟩, hc, hl => by
    simp only [checkFrom, Bool.and_eq_true] at h
    obtain ⟨⟨hok, hcov⟩, hrest⟩ := h
    simp only [okL, List.all_eq_true, Bool.and_eq_true, decide_eq_true_eq] at hok
    have hul := (hok u hu).1
    obtain ⟨c1, c2, c3⟩ := hc c (List.mem_cons_self ..)
    obtain ⟨x, y, hx, hy, hxy, hd2⟩ := hd.step hs hul c1 c2 c3
    have hnext : ∃ u' ∈ L', Dom n (gStep u x y) u' := by
      rcases Nat.lt_or_gt_of_ne hxy with hlt | hgt
      · exact coverB_sound _ _ hcov _ (List.mem_flatMap.2 ⟨u, hu, List.mem_map.2 ⟨(x, y), mem_pairsOf hlt hy, rfl⟩⟩)
      · obtain ⟨u', h1, h2⟩ := coverB_sound _ _ hcov (gStep u y x) (List.mem_flatMap.2 ⟨u, hu, List.mem_map.2 ⟨(y, x), mem_pairsOf hgt hx, rfl⟩⟩)
        exact ⟨u', h1, (Dom.swap hul hx hy).trans h2⟩
    obtain ⟨u', hu', hd3⟩ := hnext
    exact search cs L' r Ws (gStep s c.1 c.2) hrest (by rw [gStep_length]; exact hs) ⟨u', hu', hd2.trans hd3⟩ (fun c' h' => hc c' (List.mem_cons_of_mem _ h')) (by simpa using hl)

set_option maxRecDepth 100000 in
theorem check2 : checkFrom 2 gLevels2 gWits2 = true := by kernel_rfl
set_option maxRecDepth 100000 in
theorem check3 : checkFrom 3 gLevels3 gWits3 = true := by kernel_rfl
set_option maxRecDepth 100000 in
theorem check4 : checkFrom 4 gLevels4 gWits4 = true := by kernel_rfl
set_option maxRecDepth 100000 in
theorem check5 : checkFrom 5 gLevels5 gWits5 = true := by kernel_rfl
set_option maxRecDepth 100000 in
theorem check6 : checkFrom 6 gLevels6 gWits6 = true := by kernel_rfl
/-- how many calls the plan has -/
def needN (n : Nat) : Nat := if n ≤ 1 then 0 else if n = 2 then 1 else if n = 3 then 3 else 2 * n - 4
def initN (n : Nat) : List Nat := (List.range n).map fun i => 2 ^ i
theorem few_calls {n : Nat} (h1 : 1 ≤ n) (h6 : n ≤ 6) (cs : List (Nat × Nat)) (hc : ∀ c ∈ cs, c.1 < n ∧ c.2 < n ∧ c.1 ≠ c.2) (hl : cs.length < needN n) : ¬ Full n (cs.foldl (fun s c => gStep s c.1 c.2) (initN n)) := by
  have hn : n = 1 ∨ n = 2 ∨ n = 3 ∨ n = 4 ∨ n = 5 ∨ n = 6 := by omega
  rcases hn with rfl | rfl | rfl | rfl | rfl | rfl
  · simp [needN] at hl
  · exact search cs [[1, 2]] _ _ _ check2 rfl ⟨_, List.mem_singleton.2 rfl, Dom.refl _ _⟩ hc (by simpa [needN] using hl)
  · exact search cs [[1, 2, 4]] _ _ _ check3 rfl ⟨_, List.mem_singleton.2 rfl, Dom.refl _ _⟩ hc (by have : cs.length < 3 := hl; simp; omega)
  · exact search cs [[1, 2, 4, 8]] _ _ _ check4 rfl ⟨_, List.mem_singleton.2 rfl, Dom.refl _ _⟩ hc (by have : cs.length < 4 := hl; simp; omega)
  · exact search cs [[1, 2, 4, 8, 16]] _ _ _ check5 rfl ⟨_, List.mem_singleton.2 rfl, Dom.refl _ _⟩ hc (by have : cs.length < 6 := hl; simp; omega)
  · exact search cs [[1, 2, 4, 8, 16, 32]] _ _ _ check6 rfl ⟨_, List.mem_singleton.2 rfl, Dom.refl _ _⟩ hc (by have : cs.length < 8 := hl; simp; omega)
end Go.Proofs.YtdocdmpfokdjkaaDoor
