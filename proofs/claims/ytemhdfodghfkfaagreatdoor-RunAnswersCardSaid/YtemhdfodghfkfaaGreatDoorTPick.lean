/-
  PLAIN THEORY OF TREES over caches, no program in sight: the numbers of the nodes, and the row in which they are gathered. It proves no statement by itself. CONDITIONS: none.
  PLAIN THEORY OF WHERE TWO TREES PART, no program in sight: the keys told are in order, at each the ends are unlike, few nodes are asked; with the ends of those keys made alike they part no more. It proves no statement by itself. CONDITIONS: none.
  PLAIN THEORY OF CACHES MADE OF TWO: what is picked key by key, some entries of a cache, a swap of two. It proves no statement by itself. CONDITIONS: none.
-/
import Derived.Test.YtemhdfodghfkfaaGreatDoorHLaw
import Derived.Test.YtemhdfodghfkfaaGreatDoorCLaw
namespace Go.Proofs.YtemhdfodghfkfaaGreatDoor

/-- The number at an end: an entry's number, 0 of none. -/
def leafN (l : List E) (k : Nat) : Nat := match lk l (k : Int) with | some e => hashL (oneT e.key e.ver e.gone e.text) | none => 0
theorem leafN_lt (l : List E) (k : Nat) : leafN l k < 4294967296 := by
  unfold leafN
  split
  · exact hash_lt _
  · decide
/-- The number of a node. -/
def nodeN (l : List E) (i : Nat) : Nat :=
  if _h : 8 ≤ i ∨ i = 0 then leafN l (i - 8) else hashL (pairT (nodeN l (2 * i)) (nodeN l (2 * i + 1)))
termination_by 16 - i
decreasing_by all_goals omega
theorem nodeN_leaf {l : List E} {i : Nat} (h : 8 ≤ i) : nodeN l i = leafN l (i - 8) := by rw [nodeN, dif_pos (.inl h)]
theorem nodeN_node {l : List E} {i : Nat} (h1 : 1 ≤ i) (h8 : i < 8) : nodeN l i = hashL (pairT (nodeN l (2 * i)) (nodeN l (2 * i + 1))) := by rw [nodeN, dif_neg (by omega)]
theorem nodeN_lt (l : List E) (i : Nat) : nodeN l i < 4294967296 := by
  rw [nodeN]
  split
  · exact leafN_lt _ _
  · exact hash_lt _

/-- The row of all nodes, those up to i not yet there. -/
def rowT (l : List E) (i : Nat) : List Int := (List.range 16).map fun m => if i < m then (nodeN l m : Int) else 0
theorem rowT_len (l : List E) (i : Nat) : (rowT l i).length = 16 := by simp [rowT]
theorem rowT_get (l : List E) (i : Nat) {m : Nat} (h : m < 16) : (rowT l i).getD m 0 = if i < m then (nodeN l m : Int) else 0 := by
  unfold rowT
  rw [List.getD_eq_getElem?_getD, List.getElem?_map, List.getElem?_range h]
  rfl
theorem rowT_nil : rowT [] 7 = [0, 0, 0, 0, 0, 0, 0, 0, 0, 0, 0, 0, 0, 0, 0, 0] := by
  unfold rowT
  have h : ∀ m ∈ List.range 16, (if 7 < m then (nodeN [] m : Int) else 0) = 0 := by
    intro m _
    split
    · rw [nodeN_leaf (by omega)]; rfl
    · rfl
  rw [List.map_congr_left h]
  rfl
theorem rowT_set (l : List E) {i : Nat} (h1 : 1 ≤ i) (h8 : i < 8) : (rowT l i).set i (nodeN l i : Int) = rowT l (i - 1) := by
  apply List.ext_getElem
  · rw [List.length_set, rowT_len, rowT_len]
  · intro m h2 h3
    have hm : m < 16 := by rw [rowT_len] at h3; exact h3
    rw [List.getElem_set]
    simp only [rowT, List.getElem_map, List.getElem_range]
    by_cases he : i = m
    · subst he; rw [if_pos rfl, if_pos (by omega)]
    · rw [if_neg he]
      by_cases hi : i < m
      · rw [if_pos hi, if_pos (by omega)]
      · rw [if_neg hi, if_neg (by omega)]
theorem lk_snoc (p : List E) (e : E) (k : Int) (hp : ∀ x ∈ p, x.key ≠ e.key) : lk (p ++ [e]) k = if e.key = k then some e else lk p k := by
  unfold lk
  rw [List.find?_append]
  by_cases he : e.key = k
  · rw [if_pos he, List.find?_eq_none.2 (fun x hx => by have := hp x hx; rw [he] at this; simpa using this)]
    simp [he]
  · rw [if_neg he]
    simp [he]
theorem rowT_snoc {p : List E} {e : E} (hp : ∀ x ∈ p, x.key ≠ e.key) {k : Nat} (hk : e.key = k) (h8 : k < 8) :
    (rowT p 7).set (8 + k) (hashL (oneT e.key e.ver e.gone e.text) : Nat) = rowT (p ++ [e]) 7 := by
  apply List.ext_getElem
  · rw [List.length_set, rowT_len, rowT_len]
  · intro m h2 h3
    rw [List.getElem_set]
    simp only [rowT, List.getElem_map, List.getElem_range]
    by_cases he : 8 + k = m
    · subst he
      rw [if_pos rfl, if_pos (by omega), nodeN_leaf (by omega)]
      have : leafN (p ++ [e]) (8 + k - 8) = hashL (oneT e.key e.ver e.gone e.text) := by
        unfold leafN
        rw [lk_snoc p e _ hp, if_pos (by omega)]
      rw [this]
    · rw [if_neg he]
      by_cases hi : 7 < m
      · rw [if_pos hi, if_pos hi, nodeN_leaf (by omega), nodeN_leaf (by omega)]
        have : leafN (p ++ [e]) (m - 8) = leafN p (m - 8) := by
          unfold leafN
          rw [lk_snoc p e _ hp, if_neg (by omega)]
        rw [this]
      · rw [if_neg hi, if_neg hi]
/-- What tree.Node tells. -/
def tnE (l : List E) (i : Int) : Int := if 1 ≤ i ∧ i < 16 then chkC l else 1
def tnN (l : List E) (i : Int) : Int := if 1 ≤ i ∧ i < 16 then (if chkC l = 0 then (nodeN l i.toNat : Int) else 0) else 0
end Go.Proofs.YtemhdfodghfkfaaGreatDoor
namespace Go.Proofs.YtemhdfodghfkfaaGreatDoor

/-- Where two rows of numbers part from a node on: the keys, and how many were asked. -/
def partF (f g : Nat → Int) (i : Nat) : List Int × Nat :=
  if f i = g i then ([], 1)
  else if _h : 8 ≤ i ∨ i = 0 then ([(i : Int) - 8], 1)
  else ((partF f g (2 * i)).1 ++ (partF f g (2 * i + 1)).1, (partF f g (2 * i)).2 + (partF f g (2 * i + 1)).2 + 1)
termination_by 16 - i
decreasing_by all_goals omega
section
variable {f g f' g' : Nat → Int} {i : Nat}
theorem partF_eq (h : f i = g i) : partF f g i = ([], 1) := by rw [partF, if_pos h]
theorem partF_leaf (h : ¬ f i = g i) (h8 : 8 ≤ i ∨ i = 0) : partF f g i = ([(i : Int) - 8], 1) := by rw [partF, if_neg h, dif_pos h8]
theorem partF_node (h : ¬ f i = g i) (h8 : ¬ (8 ≤ i ∨ i = 0)) : partF f g i = ((partF f g (2 * i)).1 ++ (partF f g (2 * i + 1)).1, (partF f g (2 * i)).2 + (partF f g (2 * i + 1)).2 + 1) := by rw [partF, if_neg h, dif_neg h8]
end
theorem partF_congr {f g f' g' : Nat → Int} (hf : ∀ m, 1 ≤ m → m < 16 → f m = f' m) (hg : ∀ m, 1 ≤ m → m < 16 → g m = g' m) (i : Nat) (h1 : 1 ≤ i) (h16 : i < 16) : partF f g i = partF f' g' i := by
  by_cases he : f i = g i
  · rw [partF_eq he, partF_eq (by rw [← hf i h1 h16, ← hg i h1 h16]; exact he)]
  · have he' : ¬ f' i = g' i := by rw [← hf i h1 h16, ← hg i h1 h16]; exact he
    by_cases h8 : 8 ≤ i ∨ i = 0
    · rw [partF_leaf he h8, partF_leaf he' h8]
    · rw [partF_node he h8, partF_node he' h8, partF_congr hf hg (2 * i) (by omega) (by omega), partF_congr hf hg (2 * i + 1) (by omega) (by omega)]
termination_by 16 - i
decreasing_by all_goals omega
theorem partF_symm (f g : Nat → Int) (i : Nat) : partF f g i = partF g f i := by
  by_cases he : f i = g i
  · rw [partF_eq he, partF_eq he.symm]
  · have he' : ¬ g i = f i := fun h => he h.symm
    by_cases h8 : 8 ≤ i ∨ i = 0
    · rw [partF_leaf he h8, partF_leaf he' h8]
    · rw [partF_node he h8, partF_node he' h8, partF_symm f g (2 * i), partF_symm f g (2 * i + 1)]
termination_by 16 - i
decreasing_by all_goals omega

/-- The numbers above are made of those below. -/
def Comp (H : Int → Int → Int) (f : Nat → Int) : Prop := ∀ m, 1 ≤ m → m < 8 → f m = H (f (2 * m)) (f (2 * m + 1))
structure PGood (H : Int → Int → Int) (f g : Nat → Int) (i lo hi h : Nat) : Prop where
  le : lo ≤ hi
  asc : (partF f g i).1.Pairwise (· < ·)
  rng : ∀ k ∈ (partF f g i).1, (lo : Int) ≤ k ∧ k < hi
  dif : ∀ k ∈ (partF f g i).1, f (8 + k.toNat) ≠ g (8 + k.toNat)
  one : 1 ≤ (partF f g i).2
  few : (partF f g i).2 ≤ 1 + 2 * h * (partF f g i).1.length
  has : (partF f g i).1 = [] → f i = g i
  det : ∀ x y, Comp H x → Comp H y → (∀ k, lo ≤ k → k < hi → x (8 + k) = y (8 + k)) → x i = y i
  alike : ∀ x y, Comp H x → Comp H y → (∀ k : Nat, lo ≤ k → k < hi → ((k : Int) ∈ (partF f g i).1 → x (8 + k) = y (8 + k)) ∧ (¬ (k : Int) ∈ (partF f g i).1 → x (8 + k) = f (8 + k) ∧ y (8 + k) = g (8 + k))) → x i = y i
theorem PGood.leaf (H : Int → Int → Int) (f g : Nat → Int) (k : Nat) : PGood H f g (8 + k) k (k + 1) 0 := by
  by_cases he : f (8 + k) = g (8 + k)
  · have hp := partF_eq he
    exact { le := by omega, asc := by rw [hp]; exact List.Pairwise.nil, rng := by rw [hp]; simp, dif := by rw [hp]; simp, one := by rw [hp]; exact Nat.le_refl _, few := by rw [hp]; simp, has := fun _ => he,
            det := fun x y _ _ h => h k (Nat.le_refl _) (by omega),
            alike := fun x y _ _ h => by
              obtain ⟨h1, h2⟩ := (h k (Nat.le_refl _) (by omega)).2 (by rw [hp]; simp)
              rw [h1, h2, he] }
  · have hp : partF f g (8 + k) = ([(k : Int)], 1) := by rw [partF_leaf he (by omega)]; congr 2; omega
    exact { le := by omega, asc := by rw [hp]; simp, rng := by rw [hp]; intro x hx; simp at hx; subst hx; omega, dif := by rw [hp]; intro x hx; simp at hx; subst hx; simpa using he, one := by rw [hp]; exact Nat.le_refl _, few := by rw [hp]; simp, has := by rw [hp]; simp,
            det := fun x y _ _ h => h k (Nat.le_refl _) (by omega),
            alike := fun x y _ _ h => (h k (Nat.le_refl _) (by omega)).1 (by rw [hp]; simp) }
theorem PGood.node {H : Int → Int → Int} {f g : Nat → Int} (hf : Comp H f) (hg : Comp H g) {i lo mid hi h : Nat} (h1 : 1 ≤ i) (h8 : i < 8) (l : PGood H f g (2 * i) lo mid h) (r : PGood H f g (2 * i + 1) mid hi h) : PGood H f g i lo hi (h + 1) := by
  have hdet : ∀ x y, Comp H x → Comp H y → (∀ k, lo ≤ k → k < hi → x (8 + k) = y (8 + k)) → x i = y i := fun x y hx hy hk => by
    rw [hx i h1 h8, hy i h1 h8, l.det x y hx hy (fun k a b => hk k a (by have := r.le; omega)), r.det x y hx hy (fun k a b => hk k (by have := l.le; omega) b)]
  by_cases he : f i = g i
  · have hp := partF_eq he
    exact { le := by have := l.le; have := r.le; omega, asc := by rw [hp]; exact List.Pairwise.nil, rng := by rw [hp]; simp, dif := by rw [hp]; simp, one := by rw [hp]; exact Nat.le_refl _, few := by rw [hp]; simp, has := fun _ => he,
            det := hdet,
            alike := fun x y hx hy hk => by
              have hn : ∀ k : Nat, ¬ (k : Int) ∈ (partF f g i).1 := fun k => by rw [hp]; simp
              rw [hdet x f hx hf (fun k a b => ((hk k a b).2 (hn k)).1), hdet y g hy hg (fun k a b => ((hk k a b).2 (hn k)).2), he] }
  · have hp := partF_node he (show ¬ (8 ≤ i ∨ i = 0) by omega)
    have hl := l.le
    have hr := r.le
    have hne : 1 ≤ (partF f g (2 * i)).1.length + (partF f g (2 * i + 1)).1.length := by
      rcases Nat.eq_zero_or_pos ((partF f g (2 * i)).1.length + (partF f g (2 * i + 1)).1.length) with h0 | h0
      · have e1 := l.has (List.eq_nil_of_length_eq_zero (by omega))
        have e2 := r.has (List.eq_nil_of_length_eq_zero (by omega))
        exact absurd (by rw [hf i h1 h8, hg i h1 h8, e1, e2]) he
      · exact h0
    refine { le := by omega, asc := ?_, rng := ?_, dif := ?_, one := ?_, few := ?_, has := ?_, det := hdet, alike := ?_ }
    · rw [hp]
      exact List.pairwise_append.2 ⟨l.asc, r.asc, fun a ha b hb => by have := (l.rng a ha).2; have := (r.rng b hb).1; omega⟩
    · rw [hp]
      intro k hk
      rcases List.mem_append.1 hk with h | h
      · have := l.rng k h; omega
      · have := r.rng k h; omega
    · rw [hp]
      intro k hk
      rcases List.mem_append.1 hk with h | h
      · exact l.dif k h
      · exact r.dif k h
    · rw [hp]; show 1 ≤ _ + _ + 1; omega
    · rw [hp]
      simp only [List.length_append]
      have a := l.few
      have b := r.few
      rw [Nat.mul_add, Nat.mul_add, Nat.add_mul, Nat.add_mul]
      omega
    · rw [hp]
      intro h0
      have := congrArg List.length h0
      rw [List.length_append] at this
      simp only [List.length_nil] at this
      omega
    · intro x y hx hy hk
      rw [hp] at hk
      rw [hx i h1 h8, hy i h1 h8, l.alike x y hx hy, r.alike x y hx hy]
      · intro k a b
        have := hk k (by omega) b
        refine ⟨fun hm => this.1 (List.mem_append.2 (.inr hm)), fun hm => this.2 (fun hc => ?_)⟩
        rcases List.mem_append.1 hc with h | h
        · have := (l.rng _ h).2; omega
        · exact hm h
      · intro k a b
        have := hk k a (by omega)
        refine ⟨fun hm => this.1 (List.mem_append.2 (.inl hm)), fun hm => this.2 (fun hc => ?_)⟩
        rcases List.mem_append.1 hc with h | h
        · exact hm h
        · have := (r.rng _ h).1; omega
theorem PGood.root {H : Int → Int → Int} {f g : Nat → Int} (hf : Comp H f) (hg : Comp H g) : PGood H f g 1 0 8 3 :=
  have lf := PGood.leaf H f g
  .node hf hg (by decide) (by decide) (.node hf hg (i := 2) (mid := 2) (by decide) (by decide) (.node hf hg (i := 4) (mid := 1) (by decide) (by decide) (lf 0) (lf 1)) (.node hf hg (i := 5) (mid := 3) (by decide) (by decide) (lf 2) (lf 3)))
    (.node hf hg (i := 3) (mid := 6) (by decide) (by decide) (.node hf hg (i := 6) (mid := 5) (by decide) (by decide) (lf 4) (lf 5)) (.node hf hg (i := 7) (mid := 7) (by decide) (by decide) (lf 6) (lf 7)))

/-- Of two caches. -/
def treeF (l : List E) (i : Nat) : Int := (nodeN l i : Int)
def pairH (x y : Int) : Int := (hashL (pairT x y) : Nat)
theorem treeF_comp (l : List E) : Comp pairH (treeF l) := fun m h1 h8 => by
  unfold treeF pairH
  rw [nodeN_node h1 h8]
def partT (a b : List E) (i : Nat) : List Int × Nat := partF (treeF a) (treeF b) i
theorem partT_good (a b : List E) : PGood pairH (treeF a) (treeF b) 1 0 8 3 := .root (treeF_comp a) (treeF_comp b)
theorem partT_self (a : List E) : partT a a 1 = ([], 1) := partF_eq rfl
theorem treeF_leaf (l : List E) (k : Nat) : treeF l (8 + k) = (leafN l k : Int) := by unfold treeF; rw [nodeN_leaf (by omega), show 8 + k - 8 = k by omega]
theorem leafN_congr {l m : List E} {k : Nat} (h : lk l (k : Int) = lk m (k : Int)) : leafN l k = leafN m k := by unfold leafN; rw [h]
end Go.Proofs.YtemhdfodghfkfaaGreatDoor
namespace Go.Proofs.YtemhdfodghfkfaaGreatDoor

/-- Entries of a cache, of some keys. -/
def someL (l : List E) (K : List Int) : List E := l.filter fun e => decide (e.key ∈ K)
theorem lk_filter {l : List E} (K : List Int) (k : Int) : lk (someL l K) k = if k ∈ K then lk l k else none := by
  induction l with
  | nil => simp [someL, lk_nil]
  | cons e r ih =>
    unfold someL at ih ⊢
    rw [List.filter_cons]
    by_cases he : e.key ∈ K
    · rw [if_pos (by simpa using he), lk_cons, lk_cons, ih]
      by_cases hk : e.key = k
      · rw [if_pos hk, if_pos hk, if_pos (by rw [← hk]; exact he)]
      · rw [if_neg hk, if_neg hk]
    · rw [if_neg (by simpa using he), ih, lk_cons]
      by_cases hk : e.key = k
      · rw [if_neg (by rw [← hk]; exact he), if_neg (by rw [← hk]; exact he)]
      · rw [if_neg hk]
theorem some_val {l : List E} (h : chkC l = 0) (K : List Int) : chkC (someL l K) = 0 := by
  obtain ⟨h1, h2⟩ := val_iff.1 h
  exact val_iff.2 ⟨List.Pairwise.filter _ h1, fun e he => h2 e (List.mem_filter.1 he).1⟩
theorem some_len (l : List E) (K : List Int) : (someL l K).length ≤ l.length := List.length_filter_le _ _

/-- What is picked of the first keys: of one cache or of the other. -/
def pickL (a b : List E) (K : List Int) (n : Nat) : List E := (List.range n).filterMap fun (k : Nat) => lk (if (k : Int) ∈ K then a else b) (k : Int)
theorem pick_zero (a b : List E) (K : List Int) : pickL a b K 0 = [] := rfl
theorem pick_succ (a b : List E) (K : List Int) (n : Nat) : pickL a b K (n + 1) = pickL a b K n ++ (lk (if (n : Int) ∈ K then a else b) (n : Int)).toList := by
  unfold pickL
  rw [List.range_succ, List.filterMap_append]
  congr 1
theorem pick_mem {a b : List E} {K : List Int} {n : Nat} {e : E} (h : e ∈ pickL a b K n) : ∃ k, k < n ∧ lk (if (k : Int) ∈ K then a else b) (k : Int) = some e ∧ e.key = k := by
  unfold pickL at h
  obtain ⟨k, hk, he⟩ := List.mem_filterMap.1 h
  exact ⟨k, List.mem_range.1 hk, he, (lk_some he).2⟩
theorem pick_len (a b : List E) (K : List Int) (n : Nat) : (pickL a b K n).length ≤ n := by
  unfold pickL
  have := List.length_filterMap_le (fun k : Nat => lk (if (k : Int) ∈ K then a else b) (k : Int)) (List.range n)
  rw [List.length_range] at this
  exact this
theorem lk_append_none {l m : List E} {k : Int} (h : lk l k = none) : lk (l ++ m) k = lk m k := by
  unfold lk at h ⊢
  rw [List.find?_append, h]
  rfl
theorem lk_append_some {l m : List E} {k : Int} {e : E} (h : lk l k = some e) : lk (l ++ m) k = some e := by
  unfold lk at h ⊢
  rw [List.find?_append, h]
  rfl
theorem pick_lk (a b : List E) (K : List Int) : ∀ (n k : Nat), lk (pickL a b K n) (k : Int) = if k < n then lk (if (k : Int) ∈ K then a else b) (k : Int) else none
  | 0, k => by rw [pick_zero, lk_nil, if_neg (show ¬ k < 0 by omega)]
  | n + 1, k => by
    have ih := pick_lk a b K n k
    rw [pick_succ]
    by_cases hn : k = n
    · subst hn
      rw [if_neg (show ¬ k < k by omega)] at ih
      rw [lk_append_none ih, if_pos (show k < k + 1 by omega)]
      cases hc : lk (if (k : Int) ∈ K then a else b) (k : Int) with
      | none => rfl
      | some e => rw [Option.toList_some, lk_cons, if_pos (lk_some hc).2]
    · have hlast : lk (lk (if (n : Int) ∈ K then a else b) (n : Int)).toList (k : Int) = none := by
        refine lk_none fun e he => ?_
        have := (lk_some (Option.mem_toList.1 he)).2
        omega
      by_cases hk : k < n
      · rw [if_pos hk] at ih
        rw [if_pos (show k < n + 1 by omega)]
        generalize lk (if (n : Int) ∈ K then a else b) (n : Int) = o at *
        cases hc : lk (if (k : Int) ∈ K then a else b) (k : Int) with
        | some e => rw [hc] at ih; exact lk_append_some ih
        | none => rw [hc] at ih; rw [lk_append_none ih]; exact hlast
      · rw [if_neg hk] at ih
        rw [lk_append_none ih, if_neg (show ¬ k < n + 1 by omega)]
        exact hlast
theorem pick_asc (a b : List E) (K : List Int) : ∀ n : Nat, Asc (pickL a b K n)
  | 0 => List.Pairwise.nil
  | n + 1 => by
    rw [pick_succ]
    refine List.pairwise_append.2 ⟨pick_asc a b K n, ?_, fun x hx y hy => ?_⟩
    · cases lk (if (n : Int) ∈ K then a else b) (n : Int) <;> simp
    · obtain ⟨k, h1, _, h2⟩ := pick_mem hx
      have := (lk_some (Option.mem_toList.1 hy)).2
      omega
theorem pick_val {a b : List E} (ha : chkC a = 0) (hb : chkC b = 0) (K : List Int) (n : Nat) : chkC (pickL a b K n) = 0 :=
  val_iff.2 ⟨pick_asc a b K n, fun e he => by
    obtain ⟨k, _, h, _⟩ := pick_mem he
    split at h
    · exact (val_iff.1 ha).2 e (lk_some h).1
    · exact (val_iff.1 hb).2 e (lk_some h).1⟩

/-- With the ends told made alike they part no more. -/
theorem patch_none {a b c : List E} (hc : ∀ k : Nat, k < 8 → lk c (k : Int) = if (k : Int) ∈ (partT a b 1).1 then lk a (k : Int) else lk b (k : Int)) : partT a c 1 = ([], 1) := by
  refine partF_eq ((partT_good a b).alike _ _ (treeF_comp a) (treeF_comp c) fun k _ h8 => ⟨fun hm => ?_, fun hm => ⟨rfl, ?_⟩⟩)
  · rw [treeF_leaf, treeF_leaf, leafN_congr (l := c) (m := a) (by rw [hc k h8, if_pos (show (k : Int) ∈ (partT a b 1).1 from hm)])]
  · rw [treeF_leaf, treeF_leaf, leafN_congr (l := c) (m := b) (by rw [hc k h8, if_neg (show ¬ (k : Int) ∈ (partT a b 1).1 from hm)])]
/-- Where both trees' ends of the keys told are alike, and the others as they were, they part no more. -/
theorem swap_none {a b x y : List E} (h1 : ∀ k : Nat, k < 8 → (k : Int) ∈ (partT a b 1).1 → lk x (k : Int) = lk y (k : Int)) (h2 : ∀ k : Nat, k < 8 → ¬ (k : Int) ∈ (partT a b 1).1 → lk x (k : Int) = lk a (k : Int) ∧ lk y (k : Int) = lk b (k : Int)) : partT x y 1 = ([], 1) := by
  refine partF_eq ((partT_good a b).alike _ _ (treeF_comp x) (treeF_comp y) fun k _ h8 => ⟨fun hm => ?_, fun hm => ?_⟩)
  · rw [treeF_leaf, treeF_leaf, leafN_congr (h1 k h8 hm)]
  · obtain ⟨p, q⟩ := h2 k h8 hm
    rw [treeF_leaf, treeF_leaf, treeF_leaf, treeF_leaf, leafN_congr p, leafN_congr q]
    exact ⟨rfl, rfl⟩
/-- What is told does part. -/
theorem part_facts (a b : List E) : (partT a b 1).1.Pairwise (· < ·) ∧ (∀ k ∈ (partT a b 1).1, 0 ≤ k ∧ k < 8) ∧ (∀ k ∈ (partT a b 1).1, leafN a k.toNat ≠ leafN b k.toNat) ∧ 1 ≤ (partT a b 1).2 ∧ (partT a b 1).2 ≤ 1 + 6 * (partT a b 1).1.length := by
  have h := partT_good a b
  refine ⟨h.asc, fun k hk => by have := h.rng k hk; omega, fun k hk he => h.dif k hk ?_, h.one, h.few⟩
  rw [treeF_leaf, treeF_leaf, he]
theorem part_len (a b : List E) : (partT a b 1).1.length ≤ 8 := by
  obtain ⟨h1, h2, _⟩ := part_facts a b
  have key : ∀ (l : List Int) (lo : Int), l.Pairwise (· < ·) → (∀ k ∈ l, lo ≤ k ∧ k < 8) → (l.length : Int) ≤ max 0 (8 - lo) := by
    intro l
    induction l with
    | nil => intro lo _ _; simp; omega
    | cons e r ih =>
      intro lo hp hk
      obtain ⟨p1, p2⟩ := List.pairwise_cons.1 hp
      have := ih (e + 1) p2 (fun k hk' => ⟨by have := p1 k hk'; omega, (hk k (by simp [hk'])).2⟩)
      have := hk e (by simp)
      rw [List.length_cons]
      omega
  have := key _ 0 h1 h2
  omega
end Go.Proofs.YtemhdfodghfkfaaGreatDoor
