/-
  PLAIN LAW OF RINGS: the order of points, sorting, and taking each once. CONDITIONS: none.
-/
import Derived.Test.YtepddjfbkjplfaaGreatDoorPt
import Derived.Sort.LotA
namespace Go.Proofs.YtepddjfbkjplfaaGreatDoor

theorem snoc_indP {α : Type} {P : List α → Prop} (l : List α) (h0 : P []) (h : ∀ l x, P l → P (l ++ [x])) : P l := by
  rw [← List.reverse_reverse l]
  induction l.reverse with
  | nil => exact h0
  | cons x r ih => rw [List.reverse_cons]; exact h _ _ ih
def cmpI (a b : Int) : Int := if a < b then -1 else if b < a then 1 else 0
def orI (x y : Int) : Int := if x = 0 then y else x
def ordP (x y : Pt) : Int := orI (cmpI x.pos y.pos) (cmpI x.node y.node)
/-- ahead of -/
def ltP (x y : Pt) : Bool := decide (x.pos < y.pos ∨ (x.pos = y.pos ∧ x.node < y.node))
theorem ltP_true {x y : Pt} : ltP x y = true ↔ x.pos < y.pos ∨ (x.pos = y.pos ∧ x.node < y.node) := by simp [ltP]
theorem ordP_neg (x y : Pt) : ordP x y < 0 ↔ ltP x y = true := by
  rw [ltP_true]
  unfold ordP orI cmpI
  repeat' split
  all_goals omega
theorem ordP_geq (x y : Pt) : 0 ≤ ordP x y ↔ ¬ ltP x y = true := by rw [← ordP_neg]; omega
theorem ltP_irrefl (x : Pt) : ltP x x = false := by rw [← Bool.not_eq_true, ltP_true]; omega
theorem ltP_trans {x y z : Pt} (h1 : ltP x y = true) (h2 : ltP y z = true) : ltP x z = true := by rw [ltP_true] at *; omega
theorem ltP_tot {x y : Pt} (h1 : ltP x y = false) (h2 : ltP y x = false) : x = y := by
  rw [← Bool.not_eq_true, ltP_true] at h1 h2
  cases x; cases y
  simp only at h1 h2
  congr 1 <;> omega
theorem swo_ltP : Go.Sort.SWO ltP where
  irrefl x := ltP_irrefl x
  trans x y z h1 h2 := ltP_trans h1 h2
  ntrans x y z h1 h2 := by rw [← Bool.not_eq_true, ltP_true] at *; omega
def leP (x y : Pt) : Bool := !ltP y x
/-- sorted -/
def sortP (l : List Pt) : List Pt := l.mergeSort leP
theorem sortP_length (l : List Pt) : (sortP l).length = l.length := List.length_mergeSort l
theorem sortP_mem {l : List Pt} {x : Pt} : x ∈ sortP l ↔ x ∈ l := (List.mergeSort_perm l leP).mem_iff
theorem sortP_sorted (l : List Pt) : (sortP l).Pairwise (fun x y => ltP y x = false) := by
  have := List.pairwise_mergeSort (le := leP) (fun a b c h1 h2 => by
    unfold leP at *
    rw [Bool.not_eq_true'] at *
    rw [← Bool.not_eq_true, ltP_true] at *
    omega) (fun a b => by
    unfold leP
    rw [Bool.or_eq_true, Bool.not_eq_true', Bool.not_eq_true']
    rcases h : ltP b a with _ | _
    · exact .inl rfl
    · right
      rw [← Bool.not_eq_true]
      intro h2
      have := ltP_trans h h2
      rw [ltP_irrefl] at this
      cases this) l
  refine this.imp (fun {a b} h => ?_)
  unfold leP at h
  simpa using h
instance : DecidableEq Pt := fun x y => decidable_of_iff _ (eqbPt_iff x y)
/-- each once, of those that follow each other -/
def compS (acc : List Pt) (x : Pt) : List Pt := if acc.getLast? = some x then acc else acc ++ [x]
def compP (l : List Pt) : List Pt := l.foldl compS []
theorem compP_snoc (l : List Pt) (x : Pt) : compP (l ++ [x]) = compS (compP l) x := by unfold compP; rw [List.foldl_append]; rfl
theorem compS_last (acc : List Pt) (x : Pt) : (compS acc x).getLast? = some x := by
  unfold compS
  split
  · assumption
  · simp
theorem compP_last (l : List Pt) (x : Pt) : (compP (l ++ [x])).getLast? = some x := by rw [compP_snoc]; exact compS_last _ _
theorem compP_take_last {l : List Pt} {k : Nat} (hk : k < l.length) : (compP (l.take (k + 1))).getLast? = some (l.getD k Pt.zero) := by
  rw [take_snocD Pt.zero hk]; exact compP_last _ _
theorem compP_take_succ {l : List Pt} {k : Nat} (hk : k + 1 < l.length) : compP (l.take (k + 2)) = if l.getD k Pt.zero = l.getD (k + 1) Pt.zero then compP (l.take (k + 1)) else compP (l.take (k + 1)) ++ [l.getD (k + 1) Pt.zero] := by
  rw [take_snocD Pt.zero hk, compP_snoc, compS, compP_take_last (by omega)]
  by_cases h : l.getD k Pt.zero = l.getD (k + 1) Pt.zero
  · rw [if_pos (by rw [h]), if_pos h]
  · rw [if_neg (fun e => h (Option.some.inj e)), if_neg h]
theorem compP_one {l : List Pt} (h : 0 < l.length) : compP (l.take 1) = l.take 1 := by
  cases l with
  | nil => cases h
  | cons x r => rfl
theorem compP_mem {l : List Pt} {x : Pt} : x ∈ compP l ↔ x ∈ l := by
  refine snoc_indP (P := fun l => x ∈ compP l ↔ x ∈ l) l (by rfl) (fun l y ih => ?_)
  rw [compP_snoc, compS, List.mem_append, List.mem_singleton]
  split
  · rename_i h
    rw [ih]
    refine ⟨.inl, fun h2 => ?_⟩
    rcases h2 with h2 | h2
    · exact h2
    · rw [← ih, h2]
      exact List.mem_of_getLast? h
  · rw [List.mem_append, List.mem_singleton, ih]
end Go.Proofs.YtepddjfbkjplfaaGreatDoor
