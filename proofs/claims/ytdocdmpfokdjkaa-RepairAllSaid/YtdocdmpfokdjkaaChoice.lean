/-
  PLAIN LAW OF CHOICES: of two choices that are more than all one is in both. CONDITIONS: none.
-/
import Derived.Test.YtdocdmpfokdjkaaCodecs
namespace Go.Proofs.Ytdocdmpfokdjkaa
open Go.RowKit
open Go.ChangeShapes Go.WideShapes Go.ChangeAt

/-- how many are chosen -/
def cnt : List Bool → Nat
  | [] => 0
  | b :: r => (if b = true then 1 else 0) + cnt r
theorem cnt_le : ∀ l : List Bool, cnt l ≤ l.length
  | [] => Nat.le_refl _
  | b :: r => by
    rw [cnt, List.length_cons]
    have := cnt_le r
    split <;> omega
theorem cnt_set : ∀ (l : List Bool) (i : Nat), i < l.length → l.getD i false = false → cnt (l.set i true) = cnt l + 1
  | [], i, h, _ => by simp at h
  | b :: r, 0, _, hb => by
    have hb' : b = false := hb
    subst hb'
    simp [cnt]
    omega
  | b :: r, i + 1, h, hb => by
    rw [List.set_cons_succ, cnt, cnt, cnt_set r i (by simpa using h) (by simpa using hb)]
    omega
/-- all that are chosen lie below -/
def Low (n : Nat) (l : List Bool) : Prop := ∀ j, l.getD j false = true → j < n
theorem Low.cnt : ∀ {n : Nat} {l : List Bool}, Low n l → cnt l ≤ n
  | n, [], _ => Nat.zero_le _
  | 0, b :: r, h => by
    have hb : b = false := by
      rcases b with _ | _
      · rfl
      · exact absurd (h 0 rfl) (by omega)
    subst hb
    have hr : Low 0 r := fun j hj => absurd (h (j + 1) (by simpa using hj)) (by omega)
    have := hr.cnt
    simp [Proofs.Ytdocdmpfokdjkaa.cnt]
    omega
  | n + 1, b :: r, h => by
    have hr : Low n r := fun j hj => by
      have := h (j + 1) (by simpa using hj)
      omega
    have := hr.cnt
    rw [Proofs.Ytdocdmpfokdjkaa.cnt]
    split <;> omega
/-- none is in both -/
theorem cnt_apart : ∀ {n : Nat} {a b : List Bool}, Low n a → Low n b → a.length = b.length → (∀ j, j < n → ¬ (a.getD j false = true ∧ b.getD j false = true)) → cnt a + cnt b ≤ n
  | n, [], [], _, _, _, _ => Nat.zero_le _
  | n, [], _ :: _, _, _, h, _ => by simp at h
  | n, _ :: _, [], _, _, h, _ => by simp at h
  | 0, x :: a, y :: b, ha, hb, _, _ => by
    have h1 := ha.cnt
    have h2 := hb.cnt
    omega
  | n + 1, x :: a, y :: b, ha, hb, hl, hn => by
    have ha' : Low n a := fun j hj => by
      have := ha (j + 1) (by simpa using hj)
      omega
    have hb' : Low n b := fun j hj => by
      have := hb (j + 1) (by simpa using hj)
      omega
    have := cnt_apart ha' hb' (by simpa using hl) (fun j hj h => hn (j + 1) (by omega) (by simpa using h))
    have h0 := hn 0 (by omega)
    rw [cnt, cnt]
    rcases x with _ | _ <;> rcases y with _ | _ <;> simp at h0 ⊢ <;> omega
/-- one is in both, below -/
def someB (a b : List Bool) (n : Nat) : Bool := (List.range n).any fun j => a.getD j false && b.getD j false
theorem someB_succ (a b : List Bool) (n : Nat) : someB a b (n + 1) = (someB a b n || (a.getD n false && b.getD n false)) := by
  simp [someB, List.range_succ]
theorem meet_some {n : Nat} {a b : List Bool} (ha : Low n a) (hb : Low n b) (hl : a.length = b.length) (h : n < cnt a + cnt b) : someB a b n = true := by
  rcases hs : someB a b n with _ | _
  · have := cnt_apart ha hb hl (fun j hj ⟨h1, h2⟩ => by
      unfold someB at hs
      rw [List.any_eq_false] at hs
      have := hs j (List.mem_range.2 hj)
      rw [h1, h2] at this
      simp at this)
    omega
  · rfl
def bools (l : List Bool) : Array Value := (l.map Value.bool).toArray
theorem bools_get (l : List Bool) (i : Nat) (h : i < l.length) : (bools l)[i]? = some (.bool (l.getD i false)) := by
  simp [bools, List.getD, List.getElem?_eq_getElem h]
theorem bools_set (l : List Bool) (i : Nat) (u : Bool) : (bools l).setIfInBounds i (.bool u) = bools (l.set i u) := by
  simp [bools, List.map_set]
theorem Low.set {n : Nat} {l : List Bool} (h : Low n l) {i : Nat} (hi : i < n) : Low n (l.set i true) := fun j hj => by
  by_cases e : i = j
  · omega
  · refine h j ?_
    rw [List.getD_eq_getElem?_getD, List.getElem?_set_ne e] at hj
    rw [List.getD_eq_getElem?_getD]
    exact hj
end Go.Proofs.Ytdocdmpfokdjkaa
