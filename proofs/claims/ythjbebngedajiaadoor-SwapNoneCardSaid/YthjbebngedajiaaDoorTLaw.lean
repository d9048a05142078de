/-
  PLAIN THEORY OF TREES over caches, no program in sight: the numbers of the nodes, and the row in which they are gathered. It proves no statement by itself. CONDITIONS: none.
-/
import Derived.Test.YthjbebngedajiaaDoorHLaw
import Derived.Test.YthjbebngedajiaaDoorCLaw
namespace Go.Proofs.YthjbebngedajiaaDoor

/-- The number at an end: an entry's number, 0 of none. -/
def leafN (l : List E) (k : Nat) : Nat := match lk l (k : Int) with | some e => hashL (oneT e.key e.ver e.gone e.text) | none => 0
theorem leafN_lt (l : List E) (k : Nat) : leafN l k < 4294967296 := by
  unfold leafN
  split
  · exact hash_lt _
  · decide
/-- The number of a node. -/
def nodeN (l : List E) (i : Nat) : Nat :=
  if _h : 8 ≤ i ∨ i = 0 then leafN l (i - 8) else hashL (pairT (nodeN l (2 * i)) (nodeN l (2 * i + 1)))
termination_by 16 - i
decreasing_by all_goals omega
theorem nodeN_leaf {l : List E} {i : Nat} (h : 8 ≤ i) : nodeN l i = leafN l (i - 8) := by rw [nodeN, dif_pos (.inl h)]
theorem nodeN_node {l : List E} {i : Nat} (h1 : 1 ≤ i) (h8 : i < 8) : nodeN l i = hashL (pairT (nodeN l (2 * i)) (nodeN l (2 * i + 1))) := by rw [nodeN, dif_neg (by omega)]
theorem nodeN_lt (l : List E) (i : Nat) : nodeN l i < 4294967296 := by
  rw [nodeN]
  split
  · exact leafN_lt _ _
  · exact hash_lt _

/-- The row of all nodes, those up to i not yet there. -/
def rowT (l : List E) (i : Nat) : List Int := (List.range 16).map fun m => if i < m then (nodeN l m : Int) else 0
theorem rowT_len (l : List E) (i : Nat) : (rowT l i).length = 16 := by simp [rowT]
theorem rowT_get (l : List E) (i : Nat) {m : Nat} (h : m < 16) : (rowT l i).getD m 0 = if i < m then (nodeN l m : Int) else 0 := by
  unfold rowT
  rw [List.getD_eq_getElem?_getD, List.getElem?_map, List.getElem?_range h]
  rfl
theorem rowT_nil : rowT [] 7 = [0, 0, 0, 0, 0, 0, 0, 0, 0, 0, 0, 0, 0, 0, 0, 0] := by
  unfold rowT
  have h : ∀ m ∈ List.range 16, (if 7 < m then (nodeN [] m : Int) else 0) = 0 := by
    intro m _
    split
    · rw [nodeN_leaf (by omega)]; rfl
    · rfl
  rw [List.map_congr_left h]
  rfl
theorem rowT_set (l : List E) {i : Nat} (h1 : 1 ≤ i) (h8 : i < 8) : (rowT l i).set i (nodeN l i : Int) = rowT l (i - 1) := by
  apply List.ext_getElem
  · rw [List.length_set, rowT_len, rowT_len]
  · intro m h2 h3
    have hm : m < 16 := by rw [rowT_len] at h3; exact h3
    rw [List.getElem_set]
    simp only [rowT, List.getElem_map, List.getElem_range]
    by_cases he : i = m
    · subst he; rw [if_pos rfl, if_pos (by omega)]
    · rw [if_neg he]
      by_cases hi : i < m
      · rw [if_pos hi, if_pos (by omega)]
      · rw [if_neg hi, if_neg (by omega)]
theorem lk_snoc (p : List E) (e : E) (k : Int) (hp : ∀ x ∈ p, x.key ≠ e.key) : lk (p ++ [e]) k = if e.key = k then some e else lk p k := by
  unfold lk
  rw [List.find?_append]
  by_cases he : e.key = k
  · rw [if_pos he, List.find?_eq_none.2 (fun x hx => by have := hp x hx; rw [he] at this; simpa using this)]
    simp [he]
  · rw [if_neg he]
    simp [he]
theorem rowT_snoc {p : List E} {e : E} (hp : ∀ x ∈ p, x.key ≠ e.key) {k : Nat} (hk : e.key = k) (h8 : k < 8) :
    (rowT p 7).set (8 + k) (hashL (oneT e.key e.ver e.gone e.text) : Nat) = rowT (p ++ [e]) 7 := by
  apply List.ext_getElem
  · rw [List.length_set, rowT_len, rowT_len]
  · intro m h2 h3
    rw [List.getElem_set]
    simp only [rowT, List.getElem_map, List.getElem_range]
    by_cases he : 8 + k = m
    · subst he
      rw [if_pos rfl, if_pos (by omega), nodeN_leaf (by omega)]
      have : leafN (p ++ [e]) (8 + k - 8) = hashL (oneT e.key e.ver e.gone e.text) := by
        unfold leafN
        rw [lk_snoc p e _ hp, if_pos (by omega)]
      rw [this]
    · rw [if_neg he]
      by_cases hi : 7 < m
      · rw [if_pos hi, if_pos hi, nodeN_leaf (by omega), nodeN_leaf (by omega)]
        have : leafN (p ++ [e]) (m - 8) = leafN p (m - 8) := by
          unfold leafN
          rw [lk_snoc p e _ hp, if_neg (by omega)]
        rw [this]
      · rw [if_neg hi, if_neg hi]
/-- What tree.Node tells. -/
def tnE (l : List E) (i : Int) : Int := if 1 ≤ i ∧ i < 16 then chkC l else 1
def tnN (l : List E) (i : Int) : Int := if 1 ≤ i ∧ i < 16 then (if chkC l = 0 then (nodeN l i.toNat : Int) else 0) else 0
end Go.Proofs.YthjbebngedajiaaDoor
