/-
  LAWS of this seat's own, over whatever program, for slices.Insert at structs. They prove no statement by themselves. CONDITIONS: none.
-/
import Derived.Test.YthjbebngedajiaaDoorKitI
namespace Go.Proofs.YthjbebngedajiaaDoor
open Go.RowKit
open Go.ChangeShapes Go.WideShapes Go.ChangeAt

section
variable {α : Type} {cells : α → List Value} {n base : Nat} {T : TypeId} {w w' : World} {v : Value} {l : List α}
theorem Ow.heapEq (h : Ow cells n base T w v l) (hh : w'.heap = w.heap) : Ow cells n base T w' v l := by
  obtain ⟨A, cap, rfl, h1, h2, h3⟩ := h
  refine ⟨A, cap, rfl, h1, h2, h3.imp (fun h => h) ?_⟩
  rintro ⟨g, off, cur, hA, hb, hB, h4, h5⟩
  exact ⟨g, off, cur, hA, hb, by unfold Blk at hB ⊢; rw [hh]; exact hB, h4, h5⟩
/-- the cells of a slice of the call's own, one behind the other -/
theorem Ow.cellsAt (hlen : ∀ a, (cells a).length = n) (hpos : 0 < n) {g off len cap : Nat} (h : Ow cells n base T w (.slice (some ⟨g, off, none⟩) len cap) l) : ∀ j u, (l.flatMap cells)[j]? = some u → w.cell? ⟨g, off + j, none⟩ = some u := fun j u hj => by
  have hjl : j < l.length * n := by rw [← flat_length cells n hlen l]; exact (List.getElem?_eq_some_iff.1 hj).1
  have hl0 : 0 < l.length := by
    rcases Nat.eq_zero_or_pos l.length with h0 | h0
    · rw [h0] at hjl; omega
    · exact h0
  obtain ⟨g', off', cap', hv, _, _, _, _, _, hc, _⟩ := h.get hl0
  injection hv with e1 _ _
  injection e1 with e1
  injection e1 with e1 e2 _
  subst e1 e2
  have hdm := Nat.div_add_mod' j n
  have hq : j / n < l.length := by rw [Nat.div_lt_iff_lt_mul hpos]; exact hjl
  have hmod := Nat.mod_lt j hpos
  have := hc _ hq _ hmod
  rw [show off + j / n * n + j % n = off + j by omega] at this
  rw [this, ← hj, ← flat_get cells n hlen l _ _ hq hmod, hdm]
theorem Ow.firstCells {P : Program} (hlen : ∀ a, (cells a).length = n) (hpos : 0 < n) {g off k cap : Nat} (h : Ow cells n base T w (.slice (some ⟨g, off, none⟩) k cap) l) (hk : l.length = k) :
    (Builtin.firstCells n k (.slice (some ⟨g, off, none⟩) k cap)).run P w = .ok (l.flatMap cells).toArray w :=
  run_firstCells_some w n k _ _ _ _ (by rw [flat_length cells n hlen l, hk]) (fun j x hj => by rw [Addr_add]; exact h.cellsAt hlen hpos j x hj)
/-- some set in between, in place: what stands behind is moved up, then they are written -/
theorem Ow.insm (hlen : ∀ a, (cells a).length = n) {g off cap len : Nat} (h : Ow cells n base T w (.slice (some ⟨g, off, none⟩) len cap) l) {i : Nat} (hi : i ≤ l.length) (ys : List α) (hroom : l.length + ys.length ≤ cap) (hc0 : 0 < cap) :
    Ow cells n base T ((w.setCells g (off + (i + ys.length) * n) ((l.drop i).flatMap cells)).setCells g (off + i * n) (ys.flatMap cells)) (.slice (some ⟨g, off, none⟩) (len + ys.length) cap) (l.take i ++ ys ++ l.drop i) := by
  obtain ⟨A, cap', hv, h1, h2, h3⟩ := h
  cases hv
  have hfl := flat_length cells n hlen (l.drop i)
  have hfy := flat_length cells n hlen ys
  rw [List.length_drop] at hfl
  have hll : (l.take i ++ ys ++ l.drop i).length = l.length + ys.length := by simp; omega
  rcases h3 with rfl | ⟨g', off', cur, hA, hb', hB, h3, h4⟩
  · omega
  · cases hA
    have hin : (i + ys.length) * n + (l.length - i) * n ≤ cap * n := by rw [← Nat.add_mul]; exact Nat.mul_le_mul_right _ (by omega)
    have hii : (i + ys.length) * n = i * n + ys.length * n := Nat.add_mul _ _ _
    obtain ⟨c1, p1, p2, p3, p4⟩ := Blk.setCells ((l.drop i).flatMap cells) (off + (i + ys.length) * n) w cur hB (by omega)
    obtain ⟨c2, q1, q2, q3, q4⟩ := Blk.setCells (ys.flatMap cells) (off + i * n) _ c1 p1 (by omega)
    refine ⟨_, cap, by rw [hll], by rw [hll]; exact hroom, h2, .inr ⟨g, off, c2, rfl, hb', q1, by rw [q2, p2]; exact h3, fun j hj f hf => ?_⟩⟩
    have hj' := hj
    rw [hll] at hj'
    by_cases hj1 : j < i
    · have := mul_in (n := n) hj1 (Nat.le_refl i)
      have he : (l.take i ++ ys ++ l.drop i)[j] = l[j] := by
        rw [List.getElem_append_left (by simp; omega), List.getElem_append_left (by simp; omega), List.getElem_take]
      rw [q4 _ (.inl (by omega)), p4 _ (.inl (by omega)), h4 j (by omega) f hf, he]
    · by_cases hj2 : j < i + ys.length
      · have hjm : j - i < ys.length := by omega
        have hq := mul_in (n := n) hjm (Nat.le_refl _)
        have he : (l.take i ++ ys ++ l.drop i)[j] = ys[j - i] := by
          rw [List.getElem_append_left (by simp; omega), List.getElem_append_right (by simp; omega)]
          congr 1
          simp; omega
        have hs : off + j * n + f = off + i * n + ((j - i) * n + f) := by
          have : j * n = i * n + (j - i) * n := by rw [← Nat.add_mul]; congr 1; omega
          omega
        rw [hs, q3 _ (by omega), flat_get cells n hlen ys _ f hjm hf, he]
      · have hjm : j - (i + ys.length) < (l.drop i).length := by rw [List.length_drop]; omega
        have hq := mul_in (n := n) hjm (Nat.le_refl _)
        rw [List.length_drop] at hq
        have hs : off + j * n + f = off + (i + ys.length) * n + ((j - (i + ys.length)) * n + f) := by
          have : j * n = (i + ys.length) * n + (j - (i + ys.length)) * n := by rw [← Nat.add_mul]; congr 1; omega
          omega
        have he : (l.take i ++ ys ++ l.drop i)[j] = (l.drop i)[j - (i + ys.length)] := by
          rw [List.getElem_append_right (by simp; omega)]
          congr 1
          simp; omega
        rw [q4 _ (.inr (by omega)), hs, p3 _ (by omega), flat_get cells n hlen _ _ f hjm hf, he]
end
theorem setCells_drew (b : Nat) : ∀ (vs : List Value) (o : Nat) (w : World), (w.setCells b o vs).drew = w.drew.setCells b o vs
  | [], _, _ => rfl
  | v :: r, o, w => by rw [World.setCells, World.setCells, setCells_drew b r]; rfl
theorem cell_heap {W W' : World} (h : W.heap = W'.heap) (p : Addr) : W.cell? p = W'.cell? p := by unfold World.cell?; rw [h]
theorem ins_list {α : Type} (l ys R : List α) (i : Nat) (hi : i ≤ l.length) (hR : R.length = l.length + ys.length - i) :
    (((l.take i ++ R).take i ++ ys ++ (l.take i ++ R).drop (i + ys.length)).take (i + ys.length) ++ l.drop i ++ ((l.take i ++ R).take i ++ ys ++ (l.take i ++ R).drop (i + ys.length)).drop (i + ys.length + (l.drop i).length)) = l.take i ++ ys ++ l.drop i := by
  have h1 : (l.take i ++ R).take i = l.take i := by
    rw [List.take_append_of_le_length (by simp; omega), List.take_take]
    simp
  rw [h1]
  have h2 : (l.take i ++ ys ++ (l.take i ++ R).drop (i + ys.length)).take (i + ys.length) = l.take i ++ ys := by
    rw [List.take_append_of_le_length (by simp; omega)]
    exact List.take_of_length_le (by simp; omega)
  rw [h2]
  have h3 : (l.take i ++ ys ++ (l.take i ++ R).drop (i + ys.length)).drop (i + ys.length + (l.drop i).length) = [] := List.drop_eq_nil_of_le (by simp; omega)
  rw [h3, List.append_nil]
end Go.Proofs.YthjbebngedajiaaDoor
