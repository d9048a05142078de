/-
  PLAIN LAW OF THE REFERENCE's RINGS: points by place and node are the sorted ones, each once; all owners, and the first of them. CONDITIONS: none.
-/
import Derived.Test.YtepddjfbkjplfaaGreatDoorRgUse
namespace Go.Proofs.YtepddjfbkjplfaaGreatDoor

theorem asc_eq : ∀ {l m : List Pt}, l.Pairwise (fun x y => ltP x y = true) → m.Pairwise (fun x y => ltP x y = true) → (∀ x, x ∈ l ↔ x ∈ m) → l = m
  | [], [], _, _, _ => rfl
  | [], b :: m, _, _, h => by have := (h b).2 (List.mem_cons_self ..); cases this
  | a :: l, [], _, _, h => by have := (h a).1 (List.mem_cons_self ..); cases this
  | a :: l, b :: m, hl, hm, h => by
    obtain ⟨l1, l2⟩ := List.pairwise_cons.1 hl
    obtain ⟨m1, m2⟩ := List.pairwise_cons.1 hm
    have hab : a = b := by
      rcases List.mem_cons.1 ((h a).1 (List.mem_cons_self ..)) with e | ha
      · exact e
      · rcases List.mem_cons.1 ((h b).2 (List.mem_cons_self ..)) with e | hb
        · exact e.symm
        · have := ltP_trans (m1 a ha) (l1 b hb)
          rw [ltP_irrefl] at this
          cases this
    subst hab
    rw [asc_eq l2 m2 (fun x => ?_)]
    constructor
    · intro hx
      rcases List.mem_cons.1 ((h x).1 (List.mem_cons_of_mem _ hx)) with rfl | hx2
      · have := l1 x hx
        rw [ltP_irrefl] at this
        cases this
      · exact hx2
    · intro hx
      rcases List.mem_cons.1 ((h x).2 (List.mem_cons_of_mem _ hx)) with rfl | hx2
      · have := m1 x hx
        rw [ltP_irrefl] at this
        cases this
      · exact hx2
/-- is there a point of a node at a place, among the first m -/
def hitB (n at_ : Int) (m : Nat) : Bool := (List.range m).any fun i => decide ((hashP n i : Int) = at_)
theorem hitB_true {n at_ : Int} {m : Nat} : hitB n at_ m = true ↔ ∃ i, i < m ∧ (hashP n i : Int) = at_ := by
  unfold hitB
  simp [List.any_eq_true]
def hitP (l : List Int) (m : Nat) (at_ n : Int) : Bool := inL n l && hitB n at_ m
def rowP (l : List Int) (m : Nat) (at_ : Int) (k : Nat) : List Pt := (List.range k).flatMap fun (n : Nat) => if hitP l m at_ n = true then [⟨at_, n⟩] else []
theorem rowP_succ (l : List Int) (m : Nat) (at_ : Int) (k : Nat) : rowP l m at_ (k + 1) = rowP l m at_ k ++ if hitP l m at_ k = true then [⟨at_, k⟩] else [] := by simp [rowP, List.range_succ]
def refP (l : List Int) (m j : Nat) : List Pt := (List.range j).flatMap fun (a : Nat) => rowP l m a 6
theorem refP_succ (l : List Int) (m j : Nat) : refP l m (j + 1) = refP l m j ++ rowP l m j 6 := by simp [refP, List.range_succ]
theorem rowP_mem {l : List Int} {m : Nat} {at_ : Int} {k : Nat} {x : Pt} : x ∈ rowP l m at_ k ↔ ∃ n : Nat, n < k ∧ hitP l m at_ n = true ∧ x = ⟨at_, n⟩ := by
  unfold rowP
  rw [List.mem_flatMap]
  constructor
  · rintro ⟨n, hn, hx⟩
    rw [List.mem_range] at hn
    split at hx
    · exact ⟨n, hn, by assumption, List.mem_singleton.1 hx⟩
    · cases hx
  · rintro ⟨n, hn, hh, rfl⟩
    exact ⟨n, List.mem_range.2 hn, by rw [if_pos hh]; exact List.mem_singleton.2 rfl⟩
theorem refP_mem {l : List Int} {m j : Nat} {x : Pt} : x ∈ refP l m j ↔ ∃ a : Nat, a < j ∧ ∃ n : Nat, n < 6 ∧ hitP l m a n = true ∧ x = ⟨(a : Int), n⟩ := by
  unfold refP
  rw [List.mem_flatMap]
  constructor
  · rintro ⟨a, ha, hx⟩
    exact ⟨a, List.mem_range.1 ha, rowP_mem.1 hx⟩
  · rintro ⟨a, ha, hx⟩
    exact ⟨a, List.mem_range.2 ha, rowP_mem.2 hx⟩
theorem rowP_lt (l : List Int) (m : Nat) (at_ : Int) : ∀ k, (rowP l m at_ k).Pairwise (fun x y => ltP x y = true)
  | 0 => List.Pairwise.nil
  | k + 1 => by
    rw [rowP_succ]
    refine List.pairwise_append.2 ⟨rowP_lt l m at_ k, ?_, fun x hx y hy => ?_⟩
    · split
      · exact List.pairwise_singleton _ _
      · exact List.Pairwise.nil
    · obtain ⟨n, hn, -, rfl⟩ := rowP_mem.1 hx
      split at hy
      · rw [List.mem_singleton.1 hy, ltP_true]
        exact .inr ⟨rfl, by show (n : Int) < (k : Int); omega⟩
      · cases hy
theorem refP_lt (l : List Int) (m : Nat) : ∀ j, (refP l m j).Pairwise (fun x y => ltP x y = true)
  | 0 => List.Pairwise.nil
  | j + 1 => by
    rw [refP_succ]
    refine List.pairwise_append.2 ⟨refP_lt l m j, rowP_lt l m j 6, fun x hx y hy => ?_⟩
    obtain ⟨a, ha, n, -, -, rfl⟩ := refP_mem.1 hx
    obtain ⟨n', -, -, rfl⟩ := rowP_mem.1 hy
    rw [ltP_true]
    simp only
    omega
theorem rowP_length (l : List Int) (m : Nat) (at_ : Int) : ∀ k, (rowP l m at_ k).length ≤ k
  | 0 => Nat.le_refl _
  | k + 1 => by
    have := rowP_length l m at_ k
    rw [rowP_succ, List.length_append]
    split
    · rw [List.length_singleton]; omega
    · rw [List.length_nil]; omega
theorem refP_length (l : List Int) (m : Nat) : ∀ j, (refP l m j).length ≤ 6 * j
  | 0 => Nat.le_refl _
  | j + 1 => by
    have h1 := refP_length l m j
    have h2 := rowP_length l m j 6
    rw [refP_succ, List.length_append]
    omega
/-- the reference's points are those that the program gives -/
theorem refP_ptsC {l : List Int} {m : Nat} (hn : ∀ n ∈ l, nodeB n = true) : refP l m 256 = ptsC l m := by
  refine asc_eq (refP_lt l m 256) (ptsC_lt l m) (fun x => ?_)
  rw [refP_mem, ptsC_mem]
  constructor
  · rintro ⟨a, ha, n, hn6, hh, rfl⟩
    unfold hitP at hh
    rw [Bool.and_eq_true, inL_true, hitB_true] at hh
    obtain ⟨h1, i, hi, h2⟩ := hh
    exact ⟨n, h1, i, hi, by rw [h2]⟩
  · rintro ⟨n, hnl, i, hi, rfl⟩
    obtain ⟨n0, n6⟩ := nodeB_true.1 (hn n hnl)
    obtain ⟨k, rfl⟩ := Int.eq_ofNat_of_zero_le n0
    refine ⟨hashP k i, hashP_lt _ _, k, by omega, ?_, rfl⟩
    unfold hitP
    rw [Bool.and_eq_true, inL_true, hitB_true]
    exact ⟨hnl, i, hi, rfl⟩
theorem refP_good {l : List Int} {m j : Nat} (hj : j ≤ 256) : ∀ x ∈ refP l m j, x.good := fun x hx => by
  obtain ⟨a, ha, n, hn, -, rfl⟩ := refP_mem.1 hx
  unfold Pt.good
  simp only
  omega
/-- all owners -/
def ownAS (out : List Int) (p : Pt) : List Int := if p.node ∈ out then out else out ++ [p.node]
def ownA (l : List Pt) : List Int := l.foldl ownAS []
theorem ownA_snoc (l : List Pt) (p : Pt) : ownA (l ++ [p]) = ownAS (ownA l) p := by unfold ownA; rw [List.foldl_append]; rfl
theorem ownA_len (l : List Pt) : (ownA l).length ≤ l.length := by
  refine snoc_indP (P := fun l => (ownA l).length ≤ l.length) l (Nat.le_refl _) (fun l p ih => ?_)
  rw [ownA_snoc, ownAS, List.length_append, List.length_singleton]
  split
  · omega
  · rw [List.length_append, List.length_singleton]; omega
theorem ownL_take (m : Nat) (l : List Pt) : ownL (m : Int) l = (ownA l).take m := by
  refine snoc_indP (P := fun l => ownL (m : Int) l = (ownA l).take m) l (by simp [ownL, ownA]) (fun l p ih => ?_)
  rw [ownL_snoc, ownA_snoc, ih, ownS, ownAS]
  by_cases hlt : (ownA l).length < m
  · rw [List.take_of_length_le (by omega)]
    by_cases hp : p.node ∈ ownA l
    · rw [if_neg (fun h => h.2 hp), if_pos hp, List.take_of_length_le (by omega)]
    · rw [if_pos ⟨by omega, hp⟩, if_neg hp, List.take_of_length_le (by rw [List.length_append, List.length_singleton]; omega)]
  · rw [if_neg (fun h => by have := h.1; rw [List.length_take] at this; omega)]
    split
    · rfl
    · rw [List.take_append_of_le_length (by omega)]
theorem ownA_head (x : Pt) (r : List Pt) : ∃ t, ownA (x :: r) = x.node :: t := by
  refine snoc_indP (P := fun r => ∃ t, ownA (x :: r) = x.node :: t) r ⟨[], by simp [ownA, ownAS]⟩ (fun l p ih => ?_)
  obtain ⟨t, ht⟩ := ih
  rw [← List.cons_append, ownA_snoc, ht, ownAS]
  split
  · exact ⟨t, rfl⟩
  · exact ⟨t ++ [p.node], rfl⟩
/-- a place of the round -/
theorem rotP_getD {l : List Pt} {f i : Nat} (hf : f < l.length) (hi : i < l.length) : (rotP l f).getD i Pt.zero = l.getD ((f + i) % l.length) Pt.zero := by
  unfold rotP
  by_cases h : f + i < l.length
  · rw [Nat.mod_eq_of_lt h, List.getD_eq_getElem?_getD, List.getElem?_append_left (by rw [List.length_drop]; omega), List.getElem?_drop, ← List.getD_eq_getElem?_getD]
  · rw [Nat.mod_eq_sub_mod (by omega), Nat.mod_eq_of_lt (by omega), List.getD_eq_getElem?_getD, List.getElem?_append_right (by rw [List.length_drop]; omega), List.length_drop, List.getElem?_take_of_lt (by omega), ← List.getD_eq_getElem?_getD]
    congr 1
    omega
theorem rotP_length (l : List Pt) {f : Nat} (hf : f ≤ l.length) : (rotP l f).length = l.length := by
  unfold rotP
  rw [List.length_append, List.length_drop, List.length_take]
  omega
end Go.Proofs.YtepddjfbkjplfaaGreatDoor
