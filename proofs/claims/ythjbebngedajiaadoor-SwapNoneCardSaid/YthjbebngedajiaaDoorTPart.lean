/-
  PLAIN THEORY OF WHERE TWO TREES PART, no program in sight: the keys told are in order, at each the ends are unlike, few nodes are asked; with the ends of those keys made alike they part no more. It proves no statement by itself. CONDITIONS: none.
-/
import Derived.Test.YthjbebngedajiaaDoorTLaw
namespace Go.Proofs.YthjbebngedajiaaDoor

/-- Where two rows of numbers part from a node on: the keys, and how many were asked. -/
def partF (f g : Nat → Int) (i : Nat) : List Int × Nat :=
  if f i = g i then ([], 1)
  else if _h : 8 ≤ i ∨ i = 0 then ([(i : Int) - 8], 1)
  else ((partF f g (2 * i)).1 ++ (partF f g (2 * i + 1)).1, (partF f g (2 * i)).2 + (partF f g (2 * i + 1)).2 + 1)
termination_by 16 - i
decreasing_by all_goals omega
section
variable {f g f' g' : Nat → Int} {i : Nat}
theorem partF_eq (h : f i = g i) : partF f g i = ([], 1) := by rw [partF, if_pos h]
theorem partF_leaf (h : ¬ f i = g i) (h8 : 8 ≤ i ∨ i = 0) : partF f g i = ([(i : Int) - 8], 1) := by rw [partF, if_neg h, dif_pos h8]
theorem partF_node (h : ¬ f i = g i) (h8 : ¬ (8 ≤ i ∨ i = 0)) : partF f g i = ((partF f g (2 * i)).1 ++ (partF f g (2 * i + 1)).1, (partF f g (2 * i)).2 + (partF f g (2 * i + 1)).2 + 1) := by rw [partF, if_neg h, dif_neg h8]
end
theorem partF_congr {f g f' g' : Nat → Int} (hf : ∀ m, 1 ≤ m → m < 16 → f m = f' m) (hg : ∀ m, 1 ≤ m → m < 16 → g m = g' m) (i : Nat) (h1 : 1 ≤ i) (h16 : i < 16) : partF f g i = partF f' g' i := by
  by_cases he : f i = g i
  · rw [partF_eq he, partF_eq (by rw [← hf i h1 h16, ← hg i h1 h16]; exact he)]
  · have he' : ¬ f' i = g' i := by rw [← hf i h1 h16, ← hg i h1 h16]; exact he
    by_cases h8 : 8 ≤ i ∨ i = 0
    · rw [partF_leaf he h8, partF_leaf he' h8]
    · rw [partF_node he h8, partF_node he' h8, partF_congr hf hg (2 * i) (by omega) (by omega), partF_congr hf hg (2 * i + 1) (by omega) (by omega)]
termination_by 16 - i
decreasing_by all_goals omega
theorem partF_symm (f g : Nat → Int) (i : Nat) : partF f g i = partF g f i := by
  by_cases he : f i = g i
  · rw [partF_eq he, partF_eq he.symm]
  · have he' : ¬ g i = f i := fun h => he h.symm
    by_cases h8 : 8 ≤ i ∨ i = 0
    · rw [partF_leaf he h8, partF_leaf he' h8]
    · rw [partF_node he h8, partF_node he' h8, partF_symm f g (2 * i), partF_symm f g (2 * i + 1)]
termination_by 16 - i
decreasing_by all_goals omega

/-- The numbers above are made of those below. -/
def Comp (H : Int → Int → Int) (f : Nat → Int) : Prop := ∀ m, 1 ≤ m → m < 8 → f m = H (f (2 * m)) (f (2 * m + 1))
structure PGood (H : Int → Int → Int) (f g : Nat → Int) (i lo hi h : Nat) : Prop where
  le : lo ≤ hi
  asc : (partF f g i).1.Pairwise (· < ·)
  rng : ∀ k ∈ (partF f g i).1, (lo : Int) ≤ k ∧ k < hi
  dif : ∀ k ∈ (partF f g i).1, f (8 + k.toNat) ≠ g (8 + k.toNat)
  one : 1 ≤ (partF f g i).2
  few : (partF f g i).2 ≤ 1 + 2 * h * (partF f g i).1.length
  has : (partF f g i).1 = [] → f i = g i
  det : ∀ x y, Comp H x → Comp H y → (∀ k, lo ≤ k → k < hi → x (8 + k) = y (8 + k)) → x i = y i
  alike : ∀ x y, Comp H x → Comp H y → (∀ k : Nat, lo ≤ k → k < hi → ((k : Int) ∈ (partF f g i).1 → x (8 + k) = y (8 + k)) ∧ (¬ (k : Int) ∈ (partF f g i).1 → x (8 + k) = f (8 + k) ∧ y (8 + k) = g (8 + k))) → x i = y i
theorem PGood.leaf (H : Int → Int → Int) (f g : Nat → Int) (k : Nat) : PGood H f g (8 + k) k (k + 1) 0 := by
  by_cases he : f (8 + k) = g (8 + k)
  · have hp := partF_eq he
    exact { le := by omega, asc := by rw [hp]; exact List.Pairwise.nil, rng := by rw [hp]; simp, dif := by rw [hp]; simp, one := by rw [hp]; exact Nat.le_refl _, few := by rw [hp]; simp, has := fun _ => he,
            det := fun x y _ _ h => h k (Nat.le_refl _) (by omega),
            alike := fun x y _ _ h => by
              obtain ⟨h1, h2⟩ := (h k (Nat.le_refl _) (by omega)).2 (by rw [hp]; simp)
              rw [h1, h2, he] }
  · have hp : partF f g (8 + k) = ([(k : Int)], 1) := by rw [partF_leaf he (by omega)]; congr 2; omega
    exact { le := by omega, asc := by rw [hp]; simp, rng := by rw [hp]; intro x hx; simp at hx; subst hx; omega, dif := by rw [hp]; intro x hx; simp at hx; subst hx; simpa using he, one := by rw [hp]; exact Nat.le_refl _, few := by rw [hp]; simp, has := by rw [hp]; simp,
            det := fun x y _ _ h => h k (Nat.le_refl _) (by omega),
            alike := fun x y _ _ h => (h k (Nat.le_refl _) (by omega)).1 (by rw [hp]; simp) }
theorem PGood.node {H : Int → Int → Int} {f g : Nat → Int} (hf : Comp H f) (hg : Comp H g) {i lo mid hi h : Nat} (h1 : 1 ≤ i) (h8 : i < 8) (l : PGood H f g (2 * i) lo mid h) (r : PGood H f g (2 * i + 1) mid hi h) : PGood H f g i lo hi (h + 1) := by
  have hdet : ∀ x y, Comp H x → Comp H y → (∀ k, lo ≤ k → k < hi → x (8 + k) = y (8 + k)) → x i = y i := fun x y hx hy hk => by
    rw [hx i h1 h8, hy i h1 h8, l.det x y hx hy (fun k a b => hk k a (by have := r.le; omega)), r.det x y hx hy (fun k a b => hk k (by have := l.le; omega) b)]
  by_cases he : f i = g i
  · have hp := partF_eq he
    exact { le := by have := l.le; have := r.le; omega, asc := by rw [hp]; exact List.Pairwise.nil, rng := by rw [hp]; simp, dif := by rw [hp]; simp, one := by rw [hp]; exact Nat.le_refl _, few := by rw [hp]; simp, has := fun _ => he,
            det := hdet,
            alike := fun x y hx hy hk => by
              have hn : ∀ k : Nat, ¬ (k : Int) ∈ (partF f g i).1 := fun k => by rw [hp]; simp
              rw [hdet x f hx hf (fun k a b => ((hk k a b).2 (hn k)).1), hdet y g hy hg (fun k a b => ((hk k a b).2 (hn k)).2), he] }
  · have hp := partF_node he (show ¬ (8 ≤ i ∨ i = 0) by omega)
    have hl := l.le
    have hr := r.le
    have hne : 1 ≤ (partF f g (2 * i)).1.length + (partF f g (2 * i + 1)).1.length := by
      rcases Nat.eq_zero_or_pos ((partF f g (2 * i)).1.length + (partF f g (2 * i + 1)).1.length) with h0 | h0
      · have e1 := l.has (List.eq_nil_of_length_eq_zero (by omega))
        have e2 := r.has (List.eq_nil_of_length_eq_zero (by omega))
        exact absurd (by rw [hf i h1 h8, hg i h1 h8, e1, e2]) he
      · exact h0
    refine { le := by omega, asc := ?_, rng := ?_, dif := ?_, one := ?_, few := ?_, has := ?_, det := hdet, alike := ?_ }
    · rw [hp]
      exact List.pairwise_append.2 ⟨l.asc, r.asc, fun a ha b hb => by have := (l.rng a ha).2; have := (r.rng b hb).1; omega⟩
    · rw [hp]
      intro k hk
      rcases List.mem_append.1 hk with h | h
      · have := l.rng k h; omega
      · have := r.rng k h; omega
    · rw [hp]
      intro k hk
      rcases List.mem_append.1 hk with h | h
      · exact l.dif k h
      · exact r.dif k h
    · rw [hp]; show 1 ≤ _ + _ + 1; omega
    · rw [hp]
      simp only [List.length_append]
      have a := l.few
      have b := r.few
      rw [Nat.mul_add, Nat.mul_add, Nat.add_mul, Nat.add_mul]
      omega
    · rw [hp]
      intro h0
      have := congrArg List.length h0
      rw [List.length_append] at this
      simp only [List.length_nil] at this
      omega
    · intro x y hx hy hk
      rw [hp] at hk
      rw [hx i h1 h8, hy i h1 h8, l.alike x y hx hy, r.alike x y hx hy]
      · intro k a b
        have := hk k (by omega) b
        refine ⟨fun hm => this.1 (List.mem_append.2 (.inr hm)), fun hm => this.2 (fun hc => ?_)⟩
        rcases List.mem_append.1 hc with h | h
        · have := (l.rng _ h).2; omega
        · exact hm h
      · intro k a b
        have := hk k a (by omega)
        refine ⟨fun hm => this.1 (List.mem_append.2 (.inl hm)), fun hm => this.2 (fun hc => ?_)⟩
        rcases List.mem_append.1 hc with h | h
        · exact hm h
        · have := (r.rng _ h).1; omega
theorem PGood.root {H : Int → Int → Int} {f g : Nat → Int} (hf : Comp H f) (hg : Comp H g) : PGood H f g 1 0 8 3 :=
  have lf := PGood.leaf H f g
  .node hf hg (by decide) (by decide) (.node hf hg (i := 2) (mid := 2) (by decide) (by decide) (.node hf hg (i := 4) (mid := 1) (by decide) (by decide) (lf 0) (lf 1)) (.node hf hg (i := 5) (mid := 3) (by decide) (by decide) (lf 2) (lf 3)))
    (.node hf hg (i := 3) (mid := 6) (by decide) (by decide) (.node hf hg (i := 6) (mid := 5) (by decide) (by decide) (lf 4) (lf 5)) (.node hf hg (i := 7) (mid := 7) (by decide) (by decide) (lf 6) (lf 7)))

/-- Of two caches. -/
def treeF (l : List E) (i : Nat) : Int := (nodeN l i : Int)
def pairH (x y : Int) : Int := (hashL (pairT x y) : Nat)
theorem treeF_comp (l : List E) : Comp pairH (treeF l) := fun m h1 h8 => by
  unfold treeF pairH
  rw [nodeN_node h1 h8]
def partT (a b : List E) (i : Nat) : List Int × Nat := partF (treeF a) (treeF b) i
theorem partT_good (a b : List E) : PGood pairH (treeF a) (treeF b) 1 0 8 3 := .root (treeF_comp a) (treeF_comp b)
theorem partT_self (a : List E) : partT a a 1 = ([], 1) := partF_eq rfl
theorem treeF_leaf (l : List E) (k : Nat) : treeF l (8 + k) = (leafN l k : Int) := by unfold treeF; rw [nodeN_leaf (by omega), show 8 + k - 8 = k by omega]
theorem leafN_congr {l m : List E} {k : Nat} (h : lk l (k : Int) = lk m (k : Int)) : leafN l k = leafN m k := by unfold leafN; rw [h]
end Go.Proofs.YthjbebngedajiaaDoor
