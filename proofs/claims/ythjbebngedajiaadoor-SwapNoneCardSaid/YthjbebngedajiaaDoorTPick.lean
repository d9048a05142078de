/-
  PLAIN THEORY OF CACHES MADE OF TWO: what is picked key by key, some entries of a cache, a swap of two. It proves no statement by itself. CONDITIONS: none.
-/
import Derived.Test.YthjbebngedajiaaDoorTPart
import Derived.Test.YthjbebngedajiaaDoorCLaw
namespace Go.Proofs.YthjbebngedajiaaDoor

/-- Entries of a cache, of some keys. -/
def someL (l : List E) (K : List Int) : List E := l.filter fun e => decide (e.key ∈ K)
theorem lk_filter {l : List E} (K : List Int) (k : Int) : lk (someL l K) k = if k ∈ K then lk l k else none := by
  induction l with
  | nil => simp [someL, lk_nil]
  | cons e r ih =>
    unfold someL at ih ⊢
    rw [List.filter_cons]
    by_cases he : e.key ∈ K
    · rw [if_pos (by simpa using he), lk_cons, lk_cons, ih]
      by_cases hk : e.key = k
      · rw [if_pos hk, if_pos hk, if_pos (by rw [← hk]; exact he)]
      · rw [if_neg hk, if_neg hk]
    · rw [if_neg (by simpa using he), ih, lk_cons]
      by_cases hk : e.key = k
      · rw [if_neg (by rw [← hk]; exact he), if_neg (by rw [← hk]; exact he)]
      · rw [if_neg hk]
theorem some_val {l : List E} (h : chkC l = 0) (K : List Int) : chkC (someL l K) = 0 := by
  obtain ⟨h1, h2⟩ := val_iff.1 h
  exact val_iff.2 ⟨List.Pairwise.filter _ h1, fun e he => h2 e (List.mem_filter.1 he).1⟩
theorem some_len (l : List E) (K : List Int) : (someL l K).length ≤ l.length := List.length_filter_le _ _

/-- What is picked of the first keys: of one cache or of the other. -/
def pickL (a b : List E) (K : List Int) (n : Nat) : List E := (List.range n).filterMap fun (k : Nat) => lk (if (k : Int) ∈ K then a else b) (k : Int)
theorem pick_zero (a b : List E) (K : List Int) : pickL a b K 0 = [] := rfl
theorem pick_succ (a b : List E) (K : List Int) (n : Nat) : pickL a b K (n + 1) = pickL a b K n ++ (lk (if (n : Int) ∈ K then a else b) (n : Int)).toList := by
  unfold pickL
  rw [List.range_succ, List.filterMap_append]
  congr 1
theorem pick_mem {a b : List E} {K : List Int} {n : Nat} {e : E} (h : e ∈ pickL a b K n) : ∃ k, k < n ∧ lk (if (k : Int) ∈ K then a else b) (k : Int) = some e ∧ e.key = k := by
  unfold pickL at h
  obtain ⟨k, hk, he⟩ := List.mem_filterMap.1 h
  exact ⟨k, List.mem_range.1 hk, he, (lk_some he).2⟩
theorem pick_len (a b : List E) (K : List Int) (n : Nat) : (pickL a b K n).length ≤ n := by
  unfold pickL
  have := List.length_filterMap_le (fun k : Nat => lk (if (k : Int) ∈ K then a else b) (k : Int)) (List.range n)
  rw [List.length_range] at this
  exact this
theorem lk_append_none {l m : List E} {k : Int} (h : lk l k = none) : lk (l ++ m) k = lk m k := by
  unfold lk at h ⊢
  rw [List.find?_append, h]
  rfl
theorem lk_append_some {l m : List E} {k : Int} {e : E} (h : lk l k = some e) : lk (l ++ m) k = some e := by
  unfold lk at h ⊢
  rw [List.find?_append, h]
  rfl
theorem pick_lk (a b : List E) (K : List Int) : ∀ (n k : Nat), lk (pickL a b K n) (k : Int) = if k < n then lk (if (k : Int) ∈ K then a else b) (k : Int) else none
  | 0, k => by rw [pick_zero, lk_nil, if_neg (show ¬ k < 0 by omega)]
  | n + 1, k => by
    have ih := pick_lk a b K n k
    rw [pick_succ]
    by_cases hn : k = n
    · subst hn
      rw [if_neg (show ¬ k < k by omega)] at ih
      rw [lk_append_none ih, if_pos (show k < k + 1 by omega)]
      cases hc : lk (if (k : Int) ∈ K then a else b) (k : Int) with
      | none => rfl
      | some e => rw [Option.toList_some, lk_cons, if_pos (lk_some hc).2]
    · have hlast : lk (lk (if (n : Int) ∈ K then a else b) (n : Int)).toList (k : Int) = none := by
        refine lk_none fun e he => ?_
        have := (lk_some (Option.mem_toList.1 he)).2
        omega
      by_cases hk : k < n
      · rw [if_pos hk] at ih
        rw [if_pos (show k < n + 1 by omega)]
        generalize lk (if (n : Int) ∈ K then a else b) (n : Int) = o at *
        cases hc : lk (if (k : Int) ∈ K then a else b) (k : Int) with
        | some e => rw [hc] at ih; exact lk_append_some ih
        | none => rw [hc] at ih; rw [lk_append_none ih]; exact hlast
      · rw [if_neg hk] at ih
        rw [lk_append_none ih, if_neg (show ¬ k < n + 1 by omega)]
        exact hlast
theorem pick_asc (a b : List E) (K : List Int) : ∀ n : Nat, Asc (pickL a b K n)
  | 0 => List.Pairwise.nil
  | n + 1 => by
    rw [pick_succ]
    refine List.pairwise_append.2 ⟨pick_asc a b K n, ?_, fun x hx y hy => ?_⟩
    · cases lk (if (n : Int) ∈ K then a else b) (n : Int) <;> simp
    · obtain ⟨k, h1, _, h2⟩ := pick_mem hx
      have := (lk_some (Option.mem_toList.1 hy)).2
      omega
theorem pick_val {a b : List E} (ha : chkC a = 0) (hb : chkC b = 0) (K : List Int) (n : Nat) : chkC (pickL a b K n) = 0 :=
  val_iff.2 ⟨pick_asc a b K n, fun e he => by
    obtain ⟨k, _, h, _⟩ := pick_mem he
    split at h
    · exact (val_iff.1 ha).2 e (lk_some h).1
    · exact (val_iff.1 hb).2 e (lk_some h).1⟩

/-- With the ends told made alike they part no more. -/
theorem patch_none {a b c : List E} (hc : ∀ k : Nat, k < 8 → lk c (k : Int) = if (k : Int) ∈ (partT a b 1).1 then lk a (k : Int) else lk b (k : Int)) : partT a c 1 = ([], 1) := by
  refine partF_eq ((partT_good a b).alike _ _ (treeF_comp a) (treeF_comp c) fun k _ h8 => ⟨fun hm => ?_, fun hm => ⟨rfl, ?_⟩⟩)
  · rw [treeF_leaf, treeF_leaf, leafN_congr (l := c) (m := a) (by rw [hc k h8, if_pos (show (k : Int) ∈ (partT a b 1).1 from hm)])]
  · rw [treeF_leaf, treeF_leaf, leafN_congr (l := c) (m := b) (by rw [hc k h8, if_neg (show ¬ (k : Int) ∈ (partT a b 1).1 from hm)])]
/-- Where both trees' ends of the keys told are alike, and the others as they were, they part no more. -/
theorem swap_none {a b x y : List E} (h1 : ∀ k : Nat, k < 8 → (k : Int) ∈ (partT a b 1).1 → lk x (k : Int) = lk y (k : Int)) (h2 : ∀ k : Nat, k < 8 → ¬ (k : Int) ∈ (partT a b 1).1 → lk x (k : Int) = lk a (k : Int) ∧ lk y (k : Int) = lk b (k : Int)) : partT x y 1 = ([], 1) := by
  refine partF_eq ((partT_good a b).alike _ _ (treeF_comp x) (treeF_comp y) fun k _ h8 => ⟨fun hm => ?_, fun hm => ?_⟩)
  · rw [treeF_leaf, treeF_leaf, leafN_congr (h1 k h8 hm)]
  · obtain ⟨p, q⟩ := h2 k h8 hm
    rw [treeF_leaf, treeF_leaf, treeF_leaf, treeF_leaf, leafN_congr p, leafN_congr q]
    exact ⟨rfl, rfl⟩
/-- What is told does part. -/
theorem part_facts (a b : List E) : (partT a b 1).1.Pairwise (· < ·) ∧ (∀ k ∈ (partT a b 1).1, 0 ≤ k ∧ k < 8) ∧ (∀ k ∈ (partT a b 1).1, leafN a k.toNat ≠ leafN b k.toNat) ∧ 1 ≤ (partT a b 1).2 ∧ (partT a b 1).2 ≤ 1 + 6 * (partT a b 1).1.length := by
  have h := partT_good a b
  refine ⟨h.asc, fun k hk => by have := h.rng k hk; omega, fun k hk he => h.dif k hk ?_, h.one, h.few⟩
  rw [treeF_leaf, treeF_leaf, he]
theorem part_len (a b : List E) : (partT a b 1).1.length ≤ 8 := by
  obtain ⟨h1, h2, _⟩ := part_facts a b
  have key : ∀ (l : List Int) (lo : Int), l.Pairwise (· < ·) → (∀ k ∈ l, lo ≤ k ∧ k < 8) → (l.length : Int) ≤ max 0 (8 - lo) := by
    intro l
    induction l with
    | nil => intro lo _ _; simp; omega
    | cons e r ih =>
      intro lo hp hk
      obtain ⟨p1, p2⟩ := List.pairwise_cons.1 hp
      have := ih (e + 1) p2 (fun k hk' => ⟨by have := p1 k hk'; omega, (hk k (by simp [hk'])).2⟩)
      have := hk e (by simp)
      rw [List.length_cons]
      omega
  have := key _ 0 h1 h2
  omega
end Go.Proofs.YthjbebngedajiaaDoor
