/-
  PLAIN FACTS OF TREES: one entry's tree parts from none in its key, seven nodes asked; unlike ends are of unlike entries. It proves no statement by itself. CONDITIONS: none.
-/
import Derived.Test.YthjbebngedajiaaDoorTPick
import Derived.Lib.ItoaMem
namespace Go.Proofs.YthjbebngedajiaaDoor

/-- Digits by a bound on how many. -/
def decF : Nat → Nat → List UInt8
  | 0, n => [UInt8.ofNat (48 + n)]
  | f + 1, n => if n < 10 then [UInt8.ofNat (48 + n)] else decF f (n / 10) ++ [UInt8.ofNat (48 + n % 10)]
theorem decF_eq : ∀ (f n : Nat), n < 10 ^ (f + 1) → decF f n = Go.Lib.decDigits n
  | 0, n, h => by rw [Go.Lib.decDigits, dif_pos (by simpa using h)]; rfl
  | f + 1, n, h => by
    rw [decF]
    by_cases hn : n < 10
    · rw [if_pos hn, Go.Lib.decDigits, dif_pos hn]
    · rw [if_neg hn, decF_eq f (n / 10) (by rw [Nat.pow_succ] at h; omega)]
      conv => rhs; rw [Go.Lib.decDigits, dif_neg hn]
theorem itoaF {n : Nat} (h : n < 10000000000) : Go.Lib.itoa (n : Int) = decF 9 n := by rw [Go.Lib.itoa_nonneg, decF_eq 9 n (by simpa using h)]
def hpN (a b : Nat) : Nat := hashL (decF 9 a ++ 47 :: decF 9 b)
theorem pair_hp {a b : Nat} (ha : a < 4294967296) (hb : b < 4294967296) : hashL (pairT a b) = hpN a b := by
  unfold hpN pairT
  rw [Go.Lib.join_cons, itoaF (by omega), itoaF (by omega)]
  simp [Go.Lib.joinTail]
def oneF (k v : Nat) (g : Nat) (t : List UInt8) : Nat := hashL (decF 9 k ++ 47 :: (decF 9 v ++ 47 :: (decF 9 g ++ 47 :: t)))
theorem one_hp {k v : Nat} (hk : k < 10000000000) (hv : v < 10000000000) (t : ByteArray) : hashL (oneT k v false t) = oneF k v 0 (bytesOf t) := by
  unfold oneF oneT
  rw [Go.Lib.join_cons, itoaF hk, itoaF hv, show Go.Lib.itoa (if false = true then 1 else 0) = decF 9 0 from itoaF (n := 0) (by omega)]
  simp [Go.Lib.joinTail]

def e6 : E := ⟨6, 1, 1, false, ⟨#[120]⟩⟩
theorem e6_chk : chk e6 = 0 := chk_zero.2 ⟨rfl, by decide, by decide, by decide, (show (1 : Nat) ≤ 12 by decide), fun h => by cases h⟩
theorem e6_val : chkC [e6] = 0 := val_iff.2 ⟨by simp [Asc], fun x hx => by rw [List.mem_singleton.1 hx]; exact e6_chk⟩
theorem nil_val : chkC [] = 0 := val_iff.2 ⟨List.Pairwise.nil, fun x hx => by cases hx⟩
theorem e6_leaf : leafN [e6] 6 = oneF 6 1 0 [120] := one_hp (k := 6) (v := 1) (by omega) (by omega) ⟨#[120]⟩
theorem leaf_none {l : List E} {k : Nat} (h : lk l (k : Int) = none) : leafN l k = 0 := by unfold leafN; rw [h]
theorem e6_none {k : Nat} (h : k ≠ 6) : leafN [e6] k = 0 := leaf_none (by rw [lk_cons, if_neg (show ¬ e6.key = (k : Int) from by show ¬ (6 : Int) = (k : Int); omega), lk_nil])
theorem none_leaf (k : Nat) : leafN [] k = 0 := leaf_none (lk_nil _)
theorem node_hp (l : List E) {i : Nat} (h1 : 1 ≤ i) (h8 : i < 8) : nodeN l i = hpN (nodeN l (2 * i)) (nodeN l (2 * i + 1)) := by rw [nodeN_node h1 h8, pair_hp (nodeN_lt _ _) (nodeN_lt _ _)]
theorem leaf_at (l : List E) {i k : Nat} (h : i = 8 + k) : nodeN l i = leafN l k := by subst h; rw [nodeN_leaf (by omega)]; congr 1; omega
theorem o4 : nodeN [] 6 = hpN 0 0 ∧ nodeN [] 7 = hpN 0 0 ∧ nodeN [] 4 = hpN 0 0 ∧ nodeN [] 5 = hpN 0 0 := by
  refine ⟨?_, ?_, ?_, ?_⟩
  all_goals
    rw [node_hp _ (by omega) (by omega)]
    rw [nodeN_leaf (by omega), nodeN_leaf (by omega), none_leaf, none_leaf]
theorem s4 : nodeN [e6] 6 = hpN 0 0 ∧ nodeN [e6] 7 = hpN (oneF 6 1 0 [120]) 0 ∧ nodeN [e6] 4 = hpN 0 0 ∧ nodeN [e6] 5 = hpN 0 0 := by
  refine ⟨?_, ?_, ?_, ?_⟩
  · rw [node_hp _ (by omega) (by omega), nodeN_leaf (by omega), nodeN_leaf (by omega), e6_none (by omega), e6_none (by omega)]
  · rw [node_hp _ (by omega) (by omega), leaf_at [e6] (k := 6) (by omega), leaf_at [e6] (k := 7) (by omega), e6_leaf, e6_none (by omega)]
  · rw [node_hp _ (by omega) (by omega), nodeN_leaf (by omega), nodeN_leaf (by omega), e6_none (by omega), e6_none (by omega)]
  · rw [node_hp _ (by omega) (by omega), nodeN_leaf (by omega), nodeN_leaf (by omega), e6_none (by omega), e6_none (by omega)]
theorem o2 : nodeN [] 2 = hpN (hpN 0 0) (hpN 0 0) ∧ nodeN [] 3 = hpN (hpN 0 0) (hpN 0 0) := by
  obtain ⟨h6, h7, h4, h5⟩ := o4
  refine ⟨?_, ?_⟩
  · rw [node_hp _ (by omega) (by omega), show 2 * 2 = 4 from rfl, show 4 + 1 = 5 from rfl, h4, h5]
  · rw [node_hp _ (by omega) (by omega), show 2 * 3 = 6 from rfl, show 6 + 1 = 7 from rfl, h6, h7]
theorem s2 : nodeN [e6] 2 = hpN (hpN 0 0) (hpN 0 0) ∧ nodeN [e6] 3 = hpN (hpN 0 0) (hpN (oneF 6 1 0 [120]) 0) := by
  obtain ⟨h6, h7, h4, h5⟩ := s4
  refine ⟨?_, ?_⟩
  · rw [node_hp _ (by omega) (by omega), show 2 * 2 = 4 from rfl, show 4 + 1 = 5 from rfl, h4, h5]
  · rw [node_hp _ (by omega) (by omega), show 2 * 3 = 6 from rfl, show 6 + 1 = 7 from rfl, h6, h7]
theorem o1 : nodeN [] 1 = hpN (hpN (hpN 0 0) (hpN 0 0)) (hpN (hpN 0 0) (hpN 0 0)) := by
  rw [node_hp _ (by omega) (by omega), show 2 * 1 = 2 from rfl, show 2 + 1 = 3 from rfl, o2.1, o2.2]
theorem s1 : nodeN [e6] 1 = hpN (hpN (hpN 0 0) (hpN 0 0)) (hpN (hpN 0 0) (hpN (oneF 6 1 0 [120]) 0)) := by
  rw [node_hp _ (by omega) (by omega), show 2 * 1 = 2 from rfl, show 2 + 1 = 3 from rfl, s2.1, s2.2]
theorem unlike : oneF 6 1 0 [120] ≠ 0 ∧ hpN (oneF 6 1 0 [120]) 0 ≠ hpN 0 0 ∧ hpN (hpN 0 0) (hpN (oneF 6 1 0 [120]) 0) ≠ hpN (hpN 0 0) (hpN 0 0) ∧
    hpN (hpN (hpN 0 0) (hpN 0 0)) (hpN (hpN 0 0) (hpN (oneF 6 1 0 [120]) 0)) ≠ hpN (hpN (hpN 0 0) (hpN 0 0)) (hpN (hpN 0 0) (hpN 0 0)) := by decide +kernel
theorem fact_part : partT [e6] [] 1 = ([6], 7) := by
  obtain ⟨u0, u7, u3, u1⟩ := unlike
  have ne : ∀ i, nodeN [e6] i ≠ nodeN [] i → ¬ treeF [e6] i = treeF [] i := fun i h hc => h (by unfold treeF at hc; omega)
  have eq : ∀ i, nodeN [e6] i = nodeN [] i → treeF [e6] i = treeF [] i := fun i h => by unfold treeF; rw [h]
  have p15 : partF (treeF [e6]) (treeF []) 15 = ([], 1) := partF_eq (eq 15 (by rw [leaf_at [e6] (k := 7) (by omega), leaf_at [] (k := 7) (by omega), e6_none (by omega), none_leaf]))
  have p14 : partF (treeF [e6]) (treeF []) 14 = ([6], 1) := by
    rw [partF_leaf (ne 14 (by rw [leaf_at [e6] (k := 6) (by omega), leaf_at [] (k := 6) (by omega), e6_leaf, none_leaf]; exact u0)) (by omega)]
    rfl
  have p7 : partF (treeF [e6]) (treeF []) 7 = ([6], 3) := by
    rw [partF_node (ne 7 (by rw [s4.2.1, o4.2.1]; exact u7)) (by omega), show 2 * 7 = 14 from rfl, show 14 + 1 = 15 from rfl, p14, p15]
    rfl
  have p6 : partF (treeF [e6]) (treeF []) 6 = ([], 1) := partF_eq (eq 6 (by rw [s4.1, o4.1]))
  have p3 : partF (treeF [e6]) (treeF []) 3 = ([6], 5) := by
    rw [partF_node (ne 3 (by rw [s2.2, o2.2]; exact u3)) (by omega), show 2 * 3 = 6 from rfl, show 6 + 1 = 7 from rfl, p6, p7]
    rfl
  have p2 : partF (treeF [e6]) (treeF []) 2 = ([], 1) := partF_eq (eq 2 (by rw [s2.1, o2.1]))
  show partF (treeF [e6]) (treeF []) 1 = _
  rw [partF_node (ne 1 (by rw [s1, o1]; exact u1)) (by omega), show 2 * 1 = 2 from rfl, show 2 + 1 = 3 from rfl, p2, p3]
  rfl

/-- Unlike ends are of unlike entries. -/
theorem leaf_unlike {a b : List E} {k : Nat} (h : leafN a k ≠ leafN b k) : ¬ (lk a (k : Int) = none ∧ lk b (k : Int) = none) ∧
    ∀ x y, lk a (k : Int) = some x → lk b (k : Int) = some y → ¬ (x.ver = y.ver ∧ x.gone = y.gone ∧ x.text = y.text) := by
  constructor
  · rintro ⟨h1, h2⟩
    exact h (by rw [leaf_none h1, leaf_none h2])
  · rintro x y hx hy ⟨h1, h2, h3⟩
    refine h ?_
    unfold leafN
    rw [hx, hy]
    simp only
    rw [h1, h2, h3, (lk_some hx).2, (lk_some hy).2]
end Go.Proofs.YthjbebngedajiaaDoor
