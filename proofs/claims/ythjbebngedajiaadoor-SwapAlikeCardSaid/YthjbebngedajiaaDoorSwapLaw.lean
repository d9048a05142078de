/-
  PLAIN LAWS OF SWAPS, no program in sight: keys in order are right to give by; from nothing all that parts. It proves no statement by itself. CONDITIONS: none.
-/
import Derived.Test.YthjbebngedajiaaDoorGive
import Derived.Test.YthjbebngedajiaaDoorTFact
namespace Go.Proofs.YthjbebngedajiaaDoor

theorem lt_ext : ∀ {a b : List Int}, a.Pairwise (· < ·) → b.Pairwise (· < ·) → (∀ k, k ∈ a ↔ k ∈ b) → a = b
  | [], [], _, _, _ => rfl
  | [], y :: _, _, _, h => by have := (h y).2 (by simp); simp at this
  | x :: _, [], _, _, h => by have := (h x).1 (by simp); simp at this
  | x :: xs, y :: ys, ha, hb, h => by
    obtain ⟨a1, a2⟩ := List.pairwise_cons.1 ha
    obtain ⟨b1, b2⟩ := List.pairwise_cons.1 hb
    have hxy : x = y := by
      rcases List.mem_cons.1 ((h x).1 (by simp)) with e | e
      · exact e
      · rcases List.mem_cons.1 ((h y).2 (by simp)) with f | f
        · exact f.symm
        · have := a1 y f; have := b1 x e; omega
    subst hxy
    rw [lt_ext a2 b2 fun k => ⟨fun hk => ?_, fun hk => ?_⟩]
    · rcases List.mem_cons.1 ((h k).1 (List.mem_cons_of_mem _ hk)) with e | e
      · have := a1 k hk; omega
      · exact e
    · rcases List.mem_cons.1 ((h k).2 (List.mem_cons_of_mem _ hk)) with e | e
      · have := b1 k hk; omega
      · exact e
theorem giveK_zero : ∀ (K p : List Int), K.Pairwise (· < ·) → (∀ k ∈ K, 0 ≤ k ∧ k < 8) → (∀ a ∈ p, ∀ k ∈ K, a < k) → giveK p K = 0
  | [], _, _, _, _ => rfl
  | k :: r, p, h, hk, hp => by
    obtain ⟨h1, h2⟩ := List.pairwise_cons.1 h
    have hin : inL k p = false := by
      rw [inL_false]
      intro hm
      have := hp k hm k (by simp)
      omega
    rw [giveK, if_pos (keyB_true.2 (hk k (by simp))), if_neg (by rw [hin]; decide)]
    refine giveK_zero r (p ++ [k]) h2 (fun x hx => hk x (by simp [hx])) (fun a ha x hx => ?_)
    rcases List.mem_append.1 ha with e | e
    · exact hp a e x (by simp [hx])
    · rw [List.mem_singleton.1 e]; exact h1 x hx
theorem giveE_part {a b : List E} (l : List E) (hl : chkC l = 0) : giveE l (partT a b 1).1 = 0 := by
  have h8 := part_len a b
  obtain ⟨p1, p2, _⟩ := part_facts a b
  rw [giveE, if_pos hl, if_neg (by omega)]
  exact giveK_zero _ [] p1 p2 (by simp)
theorem giveL_part {a b : List E} (l : List E) (hl : chkC l = 0) : giveL l (partT a b 1).1 = someL l (partT a b 1).1 := by
  rw [giveL, if_pos (giveE_part l hl)]
theorem allC_nil_left {m : List E} (hm : chkC m = 0) : allC [] m = (m, 0) := by
  obtain ⟨i1, i2⟩ := allC_key nil_val hm
  have h0 := i1.2 (fun k a b h => by rw [lk_nil] at h; cases h)
  obtain ⟨j1, j2⟩ := i2 h0
  have : (allC [] m).1 = m := asc_ext (val_iff.1 j1).1 (val_iff.1 hm).1 (fun k => by rw [j2, lk_nil]; cases lk m k <;> rfl)
  exact Prod.ext this h0
theorem pair_nil {l : List E} (hl : chkC l = 0) : pairR l [] = (l, someL l (partT l [] 1).1, 0) := by
  have h1 : allC l (someL [] (partT l [] 1).1) = (l, 0) := rfl
  have h2 := allC_nil_left (some_val hl (partT l [] 1).1)
  rw [pairR, if_pos (by rw [diffR, if_pos hl, if_pos nil_val]), if_pos (by rw [h1]), if_pos (by rw [h2]), h1, h2]
theorem some_part_len {l : List E} (hl : chkC l = 0) : (someL l (partT l [] 1).1).length = (partT l [] 1).1.length := by
  obtain ⟨p1, p2, p3, _⟩ := part_facts l []
  have hs := (val_iff.1 (some_val hl (partT l [] 1).1)).1
  have : (someL l (partT l [] 1).1).map (·.key) = (partT l [] 1).1 := by
    refine lt_ext ?_ p1 fun k => ⟨fun hk => ?_, fun hk => ?_⟩
    · exact List.Pairwise.map _ (fun a b h => h) hs
    · obtain ⟨e, he, rfl⟩ := List.mem_map.1 hk
      have := (List.mem_filter.1 he).2
      simpa using this
    · have h3 := p3 k hk
      rw [none_leaf] at h3
      obtain ⟨n, rfl⟩ := Int.eq_ofNat_of_zero_le (p2 k hk).1
      rw [Int.toNat_natCast] at h3
      cases hlk : lk l (n : Int) with
      | none => exact absurd (leaf_none hlk) h3
      | some e =>
        obtain ⟨h1, h2⟩ := lk_some hlk
        refine List.mem_map.2 ⟨e, List.mem_filter.2 ⟨h1, ?_⟩, h2⟩
        rw [h2]
        simpa using hk
  rw [← List.length_map (f := fun e : E => e.key), this]
end Go.Proofs.YthjbebngedajiaaDoor
