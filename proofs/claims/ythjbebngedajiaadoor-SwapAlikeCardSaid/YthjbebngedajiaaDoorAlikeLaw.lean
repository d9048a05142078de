/-
  PLAIN LAWS OF WHAT A SWAP LEAVES, no program in sight: in the keys told both have the same, what both know; nothing is older; they part no more; once more it changes nothing. It proves no statement by itself. CONDITIONS: none.
-/
import Derived.Test.YthjbebngedajiaaDoorSwapLaw
import Derived.Test.YthjbebngedajiaaDoorJoinLaw
namespace Go.Proofs.YthjbebngedajiaaDoor

section
variable {a b : List E} (ha : chkC a = 0) (hb : chkC b = 0) (hX : (allC a (someL b (partT a b 1).1)).2 = 0) (hY : (allC b (someL a (partT a b 1).1)).2 = 0)
include ha hb hX
theorem alike_x (k : Int) : lk (allC a (someL b (partT a b 1).1)).1 k = jO (lk a k) (if k ∈ (partT a b 1).1 then lk b k else none) := by
  rw [((allC_key ha (some_val hb _)).2 hX).2 k, lk_filter]
theorem alike_ok {k : Int} (hk : k ∈ (partT a b 1).1) : jOk (lk a k) (lk b k) := by
  have := (allC_key ha (some_val hb _)).1.1 hX k
  rw [lk_filter, if_pos hk] at this
  exact this
theorem alike_xval : chkC (allC a (someL b (partT a b 1).1)).1 = 0 := ((allC_key ha (some_val hb _)).2 hX).1
theorem alike_old {k : Int} {u : E} (hu : lk a k = some u) : ∃ v, lk (allC a (someL b (partT a b 1).1)).1 k = some v ∧ u.ver ≤ v.ver ∧ u.asof ≤ v.asof := by
  rw [alike_x ha hb hX, hu]
  by_cases hk : k ∈ (partT a b 1).1
  · rw [if_pos hk]
    cases hv : lk b k with
    | none => exact ⟨u, rfl, Int.le_refl _, Int.le_refl _⟩
    | some v =>
      have hj := joined_jn (by rw [(lk_some hu).2, (lk_some hv).2]) (alike_ok ha hb hX hk u v hu hv)
      obtain ⟨h1, _, h3, _⟩ := hj.newer ((val_iff.1 ha).2 u (lk_some hu).1) ((val_iff.1 hb).2 v (lk_some hv).1)
      exact ⟨_, rfl, h1, h3⟩
  · rw [if_neg hk]
    exact ⟨u, rfl, Int.le_refl _, Int.le_refl _⟩
include hY
omit hX in
theorem alike_y (k : Int) : lk (allC b (someL a (partT a b 1).1)).1 k = jO (lk b k) (if k ∈ (partT a b 1).1 then lk a k else none) := by
  rw [((allC_key hb (some_val ha _)).2 hY).2 k, lk_filter]
theorem alike_key {k : Nat} (_h8 : k < 8) (hk : (k : Int) ∈ (partT a b 1).1) : ∃ u, lk (allC a (someL b (partT a b 1).1)).1 (k : Int) = some u ∧ lk (allC b (someL a (partT a b 1).1)).1 (k : Int) = some u ∧ jO (lk a (k : Int)) (lk b (k : Int)) = some u := by
  have hd := (part_facts a b).2.2.1 _ hk
  rw [Int.toNat_natCast] at hd
  have hn := (leaf_unlike hd).1
  rw [alike_x ha hb hX, alike_y ha hb hY, if_pos hk, if_pos hk]
  cases hu : lk a (k : Int) with
  | none =>
    cases hv : lk b (k : Int) with
    | none => exact absurd ⟨hu, hv⟩ hn
    | some v => exact ⟨v, rfl, rfl, rfl⟩
  | some u =>
    cases hv : lk b (k : Int) with
    | none => exact ⟨u, rfl, rfl, rfl⟩
    | some v =>
      have hkk : u.key = v.key := by rw [(lk_some hu).2, (lk_some hv).2]
      have hj := joined_jn hkk (alike_ok ha hb hX hk u v hu hv)
      refine ⟨_, rfl, ?_, rfl⟩
      show some (joined v u).1 = _
      rw [jn_joined hkk.symm (hj.comm hkk)]
omit hX in
theorem alike_yval : chkC (allC b (someL a (partT a b 1).1)).1 = 0 := ((allC_key hb (some_val ha _)).2 hY).1
theorem alike_none : partT (allC a (someL b (partT a b 1).1)).1 (allC b (someL a (partT a b 1).1)).1 1 = ([], 1) := by
  refine swap_none (a := a) (b := b) (fun k h8 hk => ?_) (fun k h8 hk => ⟨?_, ?_⟩)
  · obtain ⟨u, h1, h2, _⟩ := alike_key ha hb hX hY h8 hk
    rw [h1, h2]
  · rw [alike_x ha hb hX, if_neg hk]
    cases lk a (k : Int) <;> rfl
  · rw [alike_y ha hb hY, if_neg hk]
    cases lk b (k : Int) <;> rfl
theorem alike_again : pairR (allC a (someL b (partT a b 1).1)).1 (allC b (someL a (partT a b 1).1)).1 = ((allC a (someL b (partT a b 1).1)).1, (allC b (someL a (partT a b 1).1)).1, 0) := by
  have hs : ∀ l : List E, someL l [] = [] := fun l => by unfold someL; simp
  rw [pairR, if_pos (by rw [diffR, if_pos (alike_xval ha hb hX), if_pos (alike_yval ha hb hY)]), alike_none ha hb hX hY]
  simp only [hs]
  rfl
end
theorem pair_zero {a b : List E} (h : (pairR a b).2.2 = 0) : chkC a = 0 ∧ chkC b = 0 ∧ (allC a (someL b (partT a b 1).1)).2 = 0 ∧ (allC b (someL a (partT a b 1).1)).2 = 0 ∧ pairR a b = ((allC a (someL b (partT a b 1).1)).1, (allC b (someL a (partT a b 1).1)).1, 0) := by
  unfold pairR at h
  split at h
  · rename_i h0
    split at h
    · rename_i h1
      split at h
      · rename_i h2
        obtain ⟨ha, hb, _⟩ := diff_zero h0
        exact ⟨ha, hb, h1, h2, by rw [pairR, if_pos h0, if_pos h1, if_pos h2]⟩
      · exact absurd h (by assumption)
    · exact absurd h (by assumption)
  · exact absurd h (by assumption)
theorem allC_bad : ∀ {m l : List E}, (allC l m).2 ≠ 0 → (allC l m).1 = []
  | [], _, h => absurd rfl h
  | e :: r, l, h => by
    rw [allC] at h ⊢
    split at h
    · rename_i h0
      rw [if_pos h0]
      exact allC_bad h
    · rename_i h0
      rw [if_neg h0]
theorem e6_pair : pairR [e6] [] = ([e6], [e6], 0) := by
  rw [pair_nil e6_val, fact_part]
  rfl
end Go.Proofs.YthjbebngedajiaaDoor
