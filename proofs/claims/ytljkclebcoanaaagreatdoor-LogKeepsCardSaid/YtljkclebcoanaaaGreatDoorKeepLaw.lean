/-
  PLAIN: where the records of a log end; what a step may do; which deeds are whole behind a crash. CONDITIONS: none. No program in this text.
-/
import Derived.Test.YtljkclebcoanaaaGreatDoorLogMod
namespace Go.Proofs.YtljkclebcoanaaaGreatDoor
open Go Go.RowKit

/-- where each deed's record ends -/
def marksOf (D : List E) : List Int := (List.range (D.length + 1)).map fun i => ((bytesL (D.take i)).length : Int)
theorem marksOf_len (D : List E) : (marksOf D).length = D.length + 1 := by unfold marksOf; rw [List.length_map, List.length_range]
theorem marksOf_get (D : List E) {i : Nat} (hi : i ≤ D.length) : (marksOf D).getD i 0 = ((bytesL (D.take i)).length : Int) := by
  unfold marksOf
  rw [List.getD_eq_getElem?_getD, List.getElem?_map, List.getElem?_range (by omega)]
  rfl
theorem marksOf_snoc (D : List E) (e : E) : marksOf (D ++ [e]) = marksOf D ++ [((bytesL (D ++ [e])).length : Int)] := by
  unfold marksOf
  rw [List.length_append, List.length_singleton, List.range_succ, List.map_append, List.map_singleton]
  congr 1
  · apply List.map_congr_left
    intro i hi
    have := List.mem_range.1 hi
    rw [List.take_append_of_le_length (by omega)]
  · rw [List.take_of_length_le (by rw [List.length_append, List.length_singleton]; omega)]
theorem marksOf_take (D : List E) {i : Nat} (hi : i ≤ D.length) : (marksOf D).take (i + 1) = marksOf (D.take i) := by
  apply List.ext_getElem
  · rw [List.length_take, marksOf_len, marksOf_len, List.length_take]; omega
  · intro j h1 h2
    rw [marksOf_len, List.length_take] at h2
    rw [List.getElem_take]
    simp only [marksOf, List.getElem_map, List.getElem_range]
    rw [List.take_take, show min j i = j by omega]
theorem marksOf_nil : marksOf [] = [0] := rfl
/-- what a sync may do -/
theorem LG.sync_ways {G : LG} : (G.sync.1 = 6 ∧ G.sync.2.D = G.D) ∨ (G.sync.1 = 0 ∧ G.sync.2.D = G.D ∧ G.sync.2.safe = G.sync.2.bs.length) := by
  unfold LG.sync
  split
  · exact .inl ⟨rfl, rfl⟩
  · split
    · exact .inl ⟨rfl, rfl⟩
    · exact .inr ⟨rfl, rfl, rfl⟩
/-- what a deed may do -/
theorem LG.deed_ways {G : LG} {r : (Int × Int) × List E} {rec : List UInt8} (hz : r.1.2 ≠ 0 → r.1.1 = 0) :
    ((G.deed r rec).1 = (0, 6) ∧ (G.deed r rec).2.D = G.D) ∨ ((G.deed r rec).1 = r.1 ∧ r.1.2 ≠ 0 ∧ (G.deed r rec).2.D = G.D) ∨
      ((G.deed r rec).1 = r.1 ∧ r.1.2 = 0 ∧ (G.deed r rec).2.D = r.2 ∧ (G.deed r rec).2.stopped = false ∧ (G.deed r rec).2.bs = G.bs ++ rec) := by
  unfold LG.deed
  split
  · exact .inl ⟨rfl, rfl⟩
  · split
    · rename_i h
      refine .inr (.inl ⟨?_, h, rfl⟩)
      obtain ⟨⟨a, b⟩, c⟩ := r
      simp only at hz h ⊢
      rw [hz h]
    · rename_i h
      split
      · exact .inl ⟨rfl, rfl⟩
      · rename_i h0
        refine .inr (.inr ⟨rfl, Classical.not_not.1 h, rfl, ?_, rfl⟩)
        show decide (G.left = 0) = false
        exact decide_eq_false h0
theorem LG.ok.bytes {G : LG} (h : G.ok) (hs : G.stopped = false) : G.bs = bytesL G.D := by
  obtain ⟨p, hp, _, _, h0⟩ := h.bs
  rw [hp, h0 hs, List.append_nil]
/-- the put of a log: what is told, and what it has then -/
def DeedW (G : LG) (r : (Int × Int) × List E) (x : (Int × Int) × LG) : Prop :=
  (x.1 = (0, 6) ∧ x.2.D = G.D) ∨ (x.1 = r.1 ∧ r.1.2 ≠ 0 ∧ x.2.D = G.D) ∨ (x.1 = r.1 ∧ r.1.2 = 0 ∧ x.2.D = r.2 ∧ (∃ e, r.2 = G.D ++ [e]) ∧ x.2.bs.length = (bytesL r.2).length ∧ G.bs.length + 2 ≤ x.2.bs.length)
theorem LG.put_ways {G : LG} (h : G.ok) (k : Int) (t : ByteArray) : DeedW G (rput G.D k t) (G.put k t) := by
  have hok := LG.put_ok h k t
  have hw := LG.deed_ways (G := G) (r := rput G.D k t) (rec := recL k.toNat false t) (fun h => (rput_bad h).2)
  unfold LG.put at hok ⊢
  rcases hw with h1 | h1 | ⟨h1, h2, h3, h4, h5⟩
  · exact .inl h1
  · exact .inr (.inl h1)
  · refine .inr (.inr ⟨h1, h2, h3, ?_, ?_, ?_⟩)
    · obtain ⟨_, _, _, he⟩ := rput_ok h2
      exact ⟨_, by rw [he]⟩
    · rw [hok.bytes h4, h3]
    · rw [h5, List.length_append]
      have := recL_two k.toNat false t
      omega
theorem LG.del_ways {G : LG} (h : G.ok) (k : Int) : DeedW G (rdel G.D k) (G.del k) := by
  have hok := LG.del_ok h k
  have hw := LG.deed_ways (G := G) (r := rdel G.D k) (rec := recL k.toNat true ⟨#[]⟩) (fun h => (rdel_bad h).2)
  unfold LG.del at hok ⊢
  rcases hw with h1 | h1 | ⟨h1, h2, h3, h4, h5⟩
  · exact .inl h1
  · exact .inr (.inl h1)
  · refine .inr (.inr ⟨h1, h2, h3, ?_, ?_, ?_⟩)
    · obtain ⟨_, _, he⟩ := rdel_ok h2
      exact ⟨_, by rw [he]⟩
    · rw [hok.bytes h4, h3]
    · rw [h5, List.length_append]
      have := recL_two k.toNat true ⟨#[]⟩
      omega
/-- what is left behind a crash, as the law reckons it -/
structure LeftR (D : List E) (h m L : Nat) : Prop where
  in_ : L = 0 ∨ (L < m ∧ (bytesL (D.take L)).length ≤ h)
  max : ∀ i, i < m → (bytesL (D.take i)).length ≤ h → i ≤ L
theorem LeftR.start (D : List E) (h : Nat) : LeftR D h 0 0 := ⟨.inl rfl, fun i hi => by omega⟩
theorem LeftR.hit {D : List E} {h m L : Nat} (_ : LeftR D h m L) (hm : (bytesL (D.take m)).length ≤ h) : LeftR D h (m + 1) m := ⟨.inr ⟨by omega, hm⟩, fun i hi _ => by omega⟩
theorem LeftR.miss {D : List E} {h m L : Nat} (hl : LeftR D h m L) (hm : ¬ (bytesL (D.take m)).length ≤ h) : LeftR D h (m + 1) L :=
  ⟨hl.in_.imp (fun h => h) (fun h => ⟨by omega, h.2⟩), fun i hi hb => by
    by_cases e : i = m
    · subst e; exact absurd hb hm
    · exact hl.max i (by omega) hb⟩
theorem LeftR.done {D : List E} {h L : Nat} (hl : LeftR D h (D.length + 1) L) : L = wholeN D h := by
  have h1 := wholeN_le D h
  have h2 := hl.max (wholeN D h) (by omega) (wholeN_mark D h)
  rcases hl.in_ with h3 | ⟨h3, h4⟩
  · omega
  · have := wholeN_max D h L (by omega) h4
    omega
theorem LG.high_ways (G : LG) (hs : G.safe ≤ G.bs.length) (keep : Int) :
    (keep ≤ 0 → G.high keep = G.safe) ∧ (0 < keep → keep < (G.bs.length : Int) - (G.safe : Int) → (G.high keep : Int) = (G.safe : Int) + keep) ∧ (0 < keep → ¬ keep < (G.bs.length : Int) - (G.safe : Int) → G.high keep = G.bs.length) := by
  unfold LG.high
  refine ⟨fun h => ?_, fun h1 h2 => ?_, fun h1 h2 => ?_⟩
  · rw [show max 0 (min keep ((G.bs.length : Int) - (G.safe : Int))) = 0 by omega]; rfl
  · rw [show max 0 (min keep ((G.bs.length : Int) - (G.safe : Int))) = keep by omega]; omega
  · rw [show max 0 (min keep ((G.bs.length : Int) - (G.safe : Int))) = (G.bs.length : Int) - (G.safe : Int) by omega]; omega
end Go.Proofs.YtljkclebcoanaaaGreatDoor
