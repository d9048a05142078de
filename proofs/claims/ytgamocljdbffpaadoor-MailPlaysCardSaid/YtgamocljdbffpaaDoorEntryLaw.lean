/-
  PLAIN LAWS of entries: no program in sight. CONDITIONS: none.
-/
import Derived.Test.YtgamocljdbffpaaDoorTrue
import Derived.Test.YtgamocljdbffpaaDoorOwn
namespace Go.Proofs.YtgamocljdbffpaaDoor
open Go.RowKit

theorem chk_zero {e : E} : chk e = 0 ↔ keyB e.key = true ∧ seqB e.ver = true ∧ seqB e.asof = true ∧ e.ver ≤ e.asof ∧ e.text.size ≤ 12 ∧ (e.gone = true → e.text.toList = []) := by
  unfold chk
  constructor
  · intro h
    split at h
    · cases h
    · rename_i h1
      split at h
      · cases h
      · split at h
        · cases h
        · rename_i h2 h3
          simp only [Bool.or_eq_true, Bool.not_eq_true', not_or, Bool.not_eq_false, decide_eq_true_eq, Bool.and_eq_true, not_and] at h1 h3
          refine ⟨h1.1.1.1, h1.1.1.2, h1.1.2, by omega, by omega, fun hg => ?_⟩
          have := h3 hg
          simpa using this
  · rintro ⟨h1, h2, h3, h4, h5, h6⟩
    rw [if_neg, if_neg (by omega), if_neg]
    · simp only [Bool.and_eq_true, not_and]
      intro hg
      simp [h6 hg]
    · simp only [h1, h2, h3]
      simp
      omega

theorem chk_is1 {e : E} (h : keyB e.key = false ∨ (e.ver < 0 ∨ 1000 < e.ver ∨ e.asof < 0 ∨ 1000 < e.asof ∨ e.asof < e.ver)) : chk e = 1 := by
  unfold chk
  rw [if_pos]
  simp only [Bool.or_eq_true, Bool.not_eq_true', seqB_false, decide_eq_true_eq]
  rcases h with h | h
  · exact .inl (.inl (.inl h))
  · omega
theorem chk_first {e : E} (h1 : keyB e.key = true) (h2 : 0 ≤ e.ver ∧ e.ver ≤ e.asof ∧ e.asof ≤ 1000) : (!keyB e.key || !seqB e.ver || !seqB e.asof || decide (e.asof < e.ver)) = false := by
  have a1 : seqB e.ver = true := seqB_true.2 (by omega)
  have a2 : seqB e.asof = true := seqB_true.2 (by omega)
  simp [h1, a1, a2]
  omega
theorem chk_is4 {e : E} (h1 : keyB e.key = true) (h2 : 0 ≤ e.ver ∧ e.ver ≤ e.asof ∧ e.asof ≤ 1000) (h3 : 12 < e.text.size) : chk e = 4 := by
  unfold chk
  rw [chk_first h1 h2, if_neg (by simp), if_pos (by omega)]
theorem chk_is3 {e : E} (h1 : keyB e.key = true) (h2 : 0 ≤ e.ver ∧ e.ver ≤ e.asof ∧ e.asof ≤ 1000) (h3 : e.text.size ≤ 12) (h4 : e.gone = true) (h5 : (!e.text.toList.isEmpty) = true) : chk e = 3 := by
  unfold chk
  rw [chk_first h1 h2, if_neg (by simp), if_neg (by omega), if_pos (by simp only [h4, h5]; rfl)]
theorem chk_is0 {e : E} (h1 : keyB e.key = true) (h2 : 0 ≤ e.ver ∧ e.ver ≤ e.asof ∧ e.asof ≤ 1000) (h3 : e.text.size ≤ 12) (h4 : ¬ e.gone = true ∨ (!e.text.toList.isEmpty) = false) : chk e = 0 := by
  unfold chk
  rw [chk_first h1 h2, if_neg (by simp), if_neg (by omega), if_neg]
  rcases h4 with h4 | h4
  · simp [h4]
  · simp only [h4]; simp
theorem ret_int {k : IntKind} {a b : Int} (h : a = b) : Ending.returned (.int k a) = .returned (.int k b) := by rw [h]
theorem ret_bool {a b : Bool} (h : a = b) : Ending.returned (.bool a) = .returned (.bool b) := by rw [h]

theorem chk2_self (e : E) : chk2 e e = chk e := by
  unfold chk2
  split
  · rfl
  · rfl
theorem chk2_zero {a b : E} : chk2 a b = 0 ↔ chk a = 0 ∧ chk b = 0 := by
  unfold chk2
  split
  · simp [*]
  · simp [*]

theorem joined_self (e : E) : joined e e = (e, 0) := by
  simp [joined, joinIn]
theorem joinR_self {e : E} (h : chk e = 0) : joinR e e = (e, 0) := by
  rw [joinR, if_pos (by rw [chk2_self]; exact h), if_pos rfl, joined_self]
theorem joinR_bad {e : E} (h : chk e ≠ 0) : joinR e e = (E.zero, chk e) := by
  rw [joinR, if_neg (by rw [chk2_self]; exact h), chk2_self]
theorem trueR_ver {e : E} (h : chk e = 0) : trueR e e.ver = (true, 0) := by
  have h' := chk_zero.1 h
  simp [trueR, h, h'.2.1, h'.2.2.2.1]
theorem trueR_asof {e : E} (h : chk e = 0) : trueR e e.asof = (true, 0) := by
  have h' := chk_zero.1 h
  simp [trueR, h, h'.2.2.1, h'.2.2.2.1]
end Go.Proofs.YtgamocljdbffpaaDoor
