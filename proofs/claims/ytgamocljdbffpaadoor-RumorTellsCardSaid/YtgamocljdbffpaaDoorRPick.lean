/-
  CONTRACT of the reference mereref2.Pick. CONDITIONS: none.
-/
import Derived.Test.YtgamocljdbffpaaDoorULaw
import Derived.Test.YtgamocljdbffpaaDoorKeep
import Derived.Laws.MakeOwn
import Derived.Laws.OwnMore
import Derived.Deep.CutBlock
import Derived.Deep.DeepCutAuto
namespace Go.Proofs.YtgamocljdbffpaaDoor
open Go.RowKit
open Go.ChangeShapes Go.WideShapes Go.ChangeAt

/-! ### rows of bools -/
def bcell1 (b : Bool) : List Value := [.bool b]
theorem made_own (w : World) (n : Nat) (hn : n ≤ 1000) : Ow bcell1 1 w.heap.size 4 (w.alloc (.cells (madeCells #[.bool false] n) 4)) (.slice (some ⟨w.heap.size, 0, none⟩) n n) (List.replicate n false) := by
  refine ⟨_, n, by rw [List.length_replicate], by rw [List.length_replicate]; omega, by unfold maxLen; omega, .inr ⟨w.heap.size, 0, _, rfl, Nat.le_refl _, Blk.new _ _ _, by rw [size_madeCells]; omega, fun i hi f hf => ?_⟩⟩
  rw [List.length_replicate] at hi
  obtain rfl : f = 0 := by omega
  rw [← Array.getElem?_toList, toList_madeCells_one, List.getElem?_replicate, if_pos (by omega), List.getElem_replicate]
  rfl

/-! ### which one is told next -/
/-- the least of those that were not got, among the first j -/
def BestAt (l : List U) (G : List Bool) (j : Nat) (b : Int) : Prop :=
  (b = -1 ∧ ∀ i, i < j → G.getD i false = true) ∨ ∃ k : Nat, b = k ∧ k < j ∧ G.getD k false = false ∧ ∀ i, i < j → G.getD i false = false → i ≠ k → ltN (l.getD k U.zero) (l.getD i U.zero) = true
/-- the first k are got -/
def GotAt (l : List U) (k : Nat) (G : List Bool) : Prop := G.length = l.length ∧ ∀ i, i < l.length → G.getD i false = selU l k (l.getD i U.zero)
theorem got_zero (l : List U) : GotAt l 0 (List.replicate l.length false) := by
  refine ⟨by simp, fun i hi => ?_⟩
  have : selU l 0 (l.getD i U.zero) = false := by
    rw [← Bool.not_eq_true, selU_iff]; simp
  rw [this]
  simp [List.getD, List.getElem?_replicate, hi]
theorem uasc_at {l : List U} (h : UAsc l) {i j : Nat} (hij : i < j) (hj : j < l.length) : (l.getD i U.zero).node < (l.getD j U.zero).node := by
  rw [getD_get _ (by omega), getD_get _ hj]
  exact List.pairwise_iff_getElem.1 h i j (by omega) hj hij
theorem best_none {l : List U} {G : List Bool} {j : Nat} (h : BestAt l G j (-1)) (hg : G.getD j false = false) : BestAt l G (j + 1) j := by
  rcases h with ⟨_, h⟩ | ⟨k, h, _⟩
  · refine .inr ⟨j, rfl, by omega, hg, fun i hi hig hne => ?_⟩
    rw [h i (by omega)] at hig
    cases hig
  · omega
theorem best_got {l : List U} {G : List Bool} {j : Nat} {b : Int} (h : BestAt l G j b) (hg : G.getD j false = true) : BestAt l G (j + 1) b := by
  rcases h with ⟨rfl, h⟩ | ⟨k, rfl, h1, h2, h3⟩
  · refine .inl ⟨rfl, fun i hi => ?_⟩
    by_cases hij : i < j
    · exact h i hij
    · obtain rfl : i = j := by omega
      exact hg
  · refine .inr ⟨k, rfl, by omega, h2, fun i hi hig hne => ?_⟩
    by_cases hij : i < j
    · exact h3 i hij hig hne
    · obtain rfl : i = j := by omega
      rw [hg] at hig; cases hig
theorem best_less {l : List U} {G : List Bool} {j k : Nat} (h : BestAt l G j k) (hg : G.getD j false = false) (hlt : (l.getD j U.zero).told < (l.getD k U.zero).told) : BestAt l G (j + 1) j := by
  rcases h with ⟨h, _⟩ | ⟨k', h, h1, h2, h3⟩
  · omega
  · obtain rfl : k = k' := by omega
    refine .inr ⟨j, rfl, by omega, hg, fun i hi hig hne => ?_⟩
    by_cases hik : i = k
    · subst hik; exact ltN_true.2 (.inl hlt)
    · have := ltN_true.1 (h3 i (by omega) hig hik)
      exact ltN_true.2 (by omega)
theorem best_stay {l : List U} (ha : UAsc l) {G : List Bool} {j k : Nat} (hj : j < l.length) (h : BestAt l G j k) (hlt : ¬ (l.getD j U.zero).told < (l.getD k U.zero).told) : BestAt l G (j + 1) k := by
  rcases h with ⟨h, _⟩ | ⟨k', h, h1, h2, h3⟩
  · omega
  · obtain rfl : k = k' := by omega
    refine .inr ⟨k, rfl, by omega, h2, fun i hi hig hne => ?_⟩
    by_cases hij : i < j
    · exact h3 i hij hig hne
    · obtain rfl : i = j := by omega
      have := uasc_at ha h1 hj
      exact ltN_true.2 (by omega)
theorem sel_all {l : List U} (ha : UAsc l) {k : Nat} (h : ∀ i, i < l.length → selU l k (l.getD i U.zero) = true) (u : U) (hu : u ∈ l) : selU l (k + 1) u = true := by
  obtain ⟨i, hi, rfl⟩ := List.getElem_of_mem hu
  have := h i hi
  rw [getD_get _ hi] at this
  rw [selU_iff] at this ⊢
  exact (List.take_sublist_take_left (Nat.le_succ k)).subset this
theorem sel_next {l : List U} (ha : UAsc l) {k b : Nat} (hb : b < l.length) (hn : selU l k (l.getD b U.zero) = false) (hmin : ∀ i, i < l.length → selU l k (l.getD i U.zero) = false → i ≠ b → ltN (l.getD b U.zero) (l.getD i U.zero) = true) :
    ∀ u ∈ l, selU l (k + 1) u = (selU l k u || eqbU u (l.getD b U.zero)) := by
  have hbm : l.getD b U.zero ∈ l := getD_memD U.zero hb
  have hbo : l.getD b U.zero ∈ ordU l := (ordU_perm ha).mem_iff.2 hbm
  have hk : k < (ordU l).length := by
    rcases Nat.lt_or_ge k (ordU l).length with h | h
    · exact h
    · have : selU l k (l.getD b U.zero) = true := by rw [selU_iff, List.take_of_length_le h]; exact hbo
      rw [this] at hn; cases hn
  have hx : (ordU l)[k] = l.getD b U.zero := by
    have hxl : (ordU l)[k] ∈ l := (ordU_perm ha).mem_iff.1 (List.getElem_mem hk)
    obtain ⟨i, hi, he⟩ := List.getElem_of_mem hxl
    rw [← he]
    by_cases hib : i = b
    · subst hib; rw [getD_get _ hi]
    · exfalso
      have hp := ordU_asc ha
      have hsn : selU l k (l.getD i U.zero) = false := by
        rw [getD_get _ hi, he, ← Bool.not_eq_true, selU_iff]
        intro hm
        obtain ⟨q, hq, hqe⟩ := List.getElem_of_mem hm
        rw [List.getElem_take] at hqe
        rw [List.length_take] at hq
        have := List.pairwise_iff_getElem.1 hp q k (by omega) hk (by omega)
        rw [hqe] at this
        have := ltN_true.1 this
        omega
      have h1 := ltN_true.1 (hmin i hi hsn hib)
      have h2 : l.getD b U.zero ∈ (ordU l).drop k := by
        rw [← List.take_append_drop k (ordU l)] at hbo
        rcases List.mem_append.1 hbo with h | h
        · rw [selU_iff.2 h] at hn; cases hn
        · exact h
      rw [List.drop_eq_getElem_cons hk] at h2
      rcases List.mem_cons.1 h2 with h2 | h2
      · rw [h2, ← he, getD_get _ hi] at h1
        omega
      · obtain ⟨q, hq, hqe⟩ := List.getElem_of_mem h2
        rw [List.getElem_drop] at hqe
        rw [List.length_drop] at hq
        have := List.pairwise_iff_getElem.1 hp k (k + 1 + q) hk (by omega) (by omega)
        rw [hqe, ← he, ← getD_get U.zero hi] at this
        have := ltN_true.1 this
        omega
  intro u hu
  rw [Bool.eq_iff_iff, Bool.or_eq_true, selU_iff, selU_iff, eqbU_iff, List.take_succ_eq_append_getElem hk, List.mem_append, List.mem_singleton, hx]
theorem got_step {l : List U} (ha : UAsc l) {k : Nat} {G : List Bool} {b : Int} (hG : GotAt l k G) (hB : BestAt l G l.length b) : (b = -1 → GotAt l (k + 1) G) ∧ ∀ n : Nat, b = n → n < l.length ∧ GotAt l (k + 1) (G.set n true) := by
  obtain ⟨h1, h2⟩ := hG
  rcases hB with ⟨rfl, h⟩ | ⟨q, rfl, hq, hqn, hmin⟩
  · refine ⟨fun _ => ⟨h1, fun i hi => ?_⟩, fun n hn => by omega⟩
    rw [h i hi]
    exact (sel_all ha (fun i hi => by rw [← h2 i hi]; exact h i hi) _ (getD_memD U.zero hi)).symm
  · refine ⟨fun hn => by omega, fun n hn => ?_⟩
    obtain rfl : q = n := by omega
    have hs := sel_next ha hq (by rw [← h2 q hq]; exact hqn) (fun i hi hn hne => hmin i hi (by rw [h2 i hi]; exact hn) hne)
    refine ⟨hq, by rw [List.length_set]; exact h1, fun i hi => ?_⟩
    rw [hs _ (getD_memD U.zero hi), ← h2 i hi]
    by_cases hiq : i = q
    · subst hiq
      rw [eqbU_refl, Bool.or_true]
      simp [List.getD, List.getElem?_set, h1, hi]
    · have hne : eqbU (l.getD i U.zero) (l.getD q U.zero) = false := by
        rw [← Bool.not_eq_true, eqbU_iff]
        intro he
        rcases Nat.lt_or_gt_of_ne hiq with hlt | hgt
        · have := uasc_at ha hlt hq; rw [he] at this; omega
        · have := uasc_at ha hgt hi; rw [he] at this; omega
      rw [hne, Bool.or_false]
      simp only [List.getD, List.getElem?_set]
      rw [if_neg (fun h => hiq h.symm)]
end Go.Proofs.YtgamocljdbffpaaDoor
