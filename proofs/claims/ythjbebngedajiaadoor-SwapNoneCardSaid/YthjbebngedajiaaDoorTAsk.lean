/-
  THE CONTRACT of tree's walker: ask. CONDITIONS: none.
-/
import Derived.Test.YthjbebngedajiaaDoorTPart
import Derived.Test.YthjbebngedajiaaDoorIKit
import Derived.Deep.RegionWith
namespace Go.Proofs.YthjbebngedajiaaDoor
open Go.RowKit
open Go.ChangeShapes Go.WideShapes Go.ChangeAt

theorem sz_step {f g : Nat → Int} {c L C : Nat} (hL : 1 ≤ L) (h : ∀ i, 2 * c ≤ i → (partF f g i).1.length ≤ L ∧ (partF f g i).2 ≤ C) : ∀ i, c ≤ i → (partF f g i).1.length ≤ 2 * L ∧ (partF f g i).2 ≤ 2 * C + 1 := by
  intro i hi
  by_cases he : f i = g i
  · rw [partF_eq he]; simp
  · by_cases h8 : 8 ≤ i ∨ i = 0
    · rw [partF_leaf he h8]; simp; omega
    · rw [partF_node he h8, List.length_append]
      have a := h (2 * i) (by omega)
      have b := h (2 * i + 1) (by omega)
      simp only
      omega
theorem sz_leaf {f g : Nat → Int} : ∀ i, 8 ≤ i → (partF f g i).1.length ≤ 1 ∧ (partF f g i).2 ≤ 1 := by
  intro i hi
  by_cases he : f i = g i
  · rw [partF_eq he]; simp
  · rw [partF_leaf he (.inl hi)]; simp
theorem partF_sz {f g : Nat → Int} : ∀ i, 1 ≤ i → (partF f g i).1.length ≤ 8 ∧ (partF f g i).2 ≤ 15 :=
  sz_step (c := 1) (L := 4) (C := 7) (by decide) (sz_step (c := 2) (L := 2) (C := 3) (by decide) (sz_step (c := 4) (L := 1) (C := 1) (by decide) sz_leaf))

/-- A walker as it lies. -/
def walkC (fa fb : List Int) (v : Value) (n : Nat) : Array Value := (ints fa ++ ints fb) ++ #[v, .int .i64 n]
section
variable {fa fb : List Int} {v : Value} {n : Nat}
theorem ints_size (l : List Int) : (ints l).size = l.length := by simp [ints]
theorem walkC_a (ha : fa.length = 16) {i : Nat} (h : i < 16) : (walkC fa fb v n)[i]? = some (.int .i64 (fa.getD i 0)) := by
  unfold walkC
  rw [Array.getElem?_append_left (by rw [Array.size_append, ints_size]; omega), Array.getElem?_append_left (by rw [ints_size]; omega), ints_get fa i (by omega)]
theorem walkC_b (ha : fa.length = 16) (hb : fb.length = 16) {i : Nat} (h : i < 16) : (walkC fa fb v n)[16 + i]? = some (.int .i64 (fb.getD i 0)) := by
  unfold walkC
  rw [Array.getElem?_append_left (by rw [Array.size_append, ints_size, ints_size]; omega), Array.getElem?_append_right (by rw [ints_size]; omega), ints_size, ha, Nat.add_sub_cancel_left, ints_get fb i (by omega)]
theorem walk_base (ha : fa.length = 16) (hb : fb.length = 16) : (ints fa ++ ints fb).size = 32 := by rw [Array.size_append, ints_size, ints_size]; omega
theorem walkC_k (ha : fa.length = 16) (hb : fb.length = 16) : (walkC fa fb v n)[32]? = some v := by
  unfold walkC
  rw [Array.getElem?_append_right (by rw [walk_base ha hb]; omega), walk_base ha hb]; rfl
theorem walkC_n (ha : fa.length = 16) (hb : fb.length = 16) : (walkC fa fb v n)[33]? = some (.int .i64 n) := by
  unfold walkC
  rw [Array.getElem?_append_right (by rw [walk_base ha hb]; omega), walk_base ha hb]; rfl
theorem walkC_putk (ha : fa.length = 16) (hb : fb.length = 16) (v' : Value) : (walkC fa fb v n).setIfInBounds 32 v' = walkC fa fb v' n := by
  unfold walkC
  rw [Array.setIfInBounds_append_right (by rw [walk_base ha hb]; omega), walk_base ha hb]; rfl
theorem walkC_putn (ha : fa.length = 16) (hb : fb.length = 16) (m : Nat) : (walkC fa fb v n).setIfInBounds 33 (.int .i64 m) = walkC fa fb v m := by
  unfold walkC
  rw [Array.setIfInBounds_append_right (by rw [walk_base ha hb]; omega), walk_base ha hb]; rfl
end

def AskR (g : Nat) (fa fb : List Int) (K : List Int) (n : Nat) (r : List Int × Nat) (w : World) (e : Ending) (w' : World) : Prop :=
  ∃ v', e = .returned (.tuple #[]) ∧ Blk w' g 113 (walkC fa fb v' (n + r.2)) ∧ Ow cellI 1 (g + 1) 3 w' v' (K ++ r.1) ∧ Below g w w'

set_option maxHeartbeats 4000000 in
set_option maxRecDepth 100000 in
theorem ask_any (fa fb : List Int) (ha : fa.length = 16) (hb : fb.length = 16) (g : Nat) : ∀ (m i : Nat), 16 - i ≤ m → 1 ≤ i → i < 16 → ∀ (v : Value) (K : List Int) (n : Nat) (w : World), Blk w g 113 (walkC fa fb v n) → Ow cellI 1 (g + 1) 3 w v K → K.length ≤ 1000 + 8 * i → n ≤ 1000 + 16 * i →
    Calls Tryd.prog 79 #[.pointer (some ⟨g, 0, none⟩), .int .i64 i] w (AskR g fa fb K n (partF (fun j => fa.getD j 0) (fun j => fb.getD j 0) i) w)
  | 0, i, h, _, h16 => by omega
  | m + 1, i, h, h1, h16 => by
    have IH := hid (ask_any fa fb ha hb g m)
    intro v K n w hB hO hK hn
    have cn : w.cell? ⟨g, 33, none⟩ = some (.int .i64 n) := (hB.cell 33).trans (walkC_n ha hb)
    have f33 := hB.frozen 33
    obtain ⟨w1, hw1⟩ : ∃ w1 : World, w1 = w.setCell ⟨g, 33, none⟩ (.int .i64 ((n : Int) + 1)) := ⟨_, rfl⟩
    have hB1 : Blk w1 g 113 (walkC fa fb v (n + 1)) := by
      have := hB.put 33 (.int .i64 ((n : Int) + 1))
      rw [show ((n : Int) + 1) = ((n + 1 : Nat) : Int) by omega, walkC_putn ha hb] at this
      rw [hw1, show ((n : Int) + 1) = ((n + 1 : Nat) : Int) by omega]
      exact this
    have hO1 : Ow cellI 1 (g + 1) 3 w1 v K := by
      rw [hw1]
      exact hO.fr (S := fun x => x = g) (Fr.setCell (S := fun x => x = g) (Fr.refl _ _) (.inl rfl) _) (fun q hq hqg => by have := (hO.lt hq).1; omega)
    have hb1 : Below g w w1 := by rw [hw1]; exact (Below.refl _ _).setCell (p := ⟨g, 33, none⟩) (Nat.le_refl _) _
    have ca : w1.cell? ⟨g, i, none⟩ = some (.int .i64 (fa.getD i 0)) := (hB1.cell i).trans (walkC_a ha h16)
    have cb : w1.cell? ⟨g, 16 + i, none⟩ = some (.int .i64 (fb.getD i 0)) := (hB1.cell (16 + i)).trans (walkC_b ha hb h16)
    have hg := hB.lt
    have hg1 := hB1.lt
    have HB1 := hid hB1
    have HO1 := hid hO1
    have Hb1 := hid hb1
    have Hw1 := hid hw1
    clear hB hO hB1 hO1 hb1 hw1
    by_cases he : fa.getD i 0 = fb.getD i 0
    · have heb : (fa.getD i 0 == fb.getD i 0) = true := by rw [he]; simp
      rw [partF_eq (f := fun j => fa.getD j 0) (g := fun j => fb.getD j 0) he]
      generalize fa.getD i 0 = x at *
      generalize fb.getD i 0 = y at *
      clear he
      go_enter Tryd.func79, Tryd.ntmps79
      go_wp2_with fail
      rw [← Hw1.out]
      go_quiet (fail)
      rename_i nq
      go_wp2_with fail
      (first | go_end0 | (refine bodyPost_ret (results_none rfl _ _ _) rfl ?_) | (refine bodyPost_end (results_none rfl _ _ _) rfl ?_))
      exact ⟨v, rfl, HB1.out.drewN nq, by rw [List.append_nil]; exact HO1.out.drewN nq, Below.manyDrew Hb1.out nq⟩
    · have heb : (fa.getD i 0 == fb.getD i 0) = false := by rw [beq_eq_false_iff_ne]; exact he
      have ck : w1.cell? ⟨g, 32, none⟩ = some v := (HB1.out.cell 32).trans (walkC_k ha hb)
      have f32 := HB1.out.frozen 32
      by_cases h8 : 8 ≤ i
      · rw [partF_leaf (f := fun j => fa.getD j 0) (g := fun j => fb.getD j 0) he (.inl h8)]
        have h8' : (8 : Int) ≤ (i : Int) := by omega
        generalize fa.getD i 0 = x at *
        generalize fb.getD i 0 = y at *
        clear he
        go_enter Tryd.func79, Tryd.ntmps79
        go_wp2_with fail
        rw [← Hw1.out]
        go_quiet (fail)
        rename_i nq
        go_wp2_with (at_builtin; refine appI _ (g + 1) _ K _ (HO1.out.drewN nq) rfl _ _ rfl rfl rfl ?_ ?_ ?_ ?_)
        any_goals (first | (with_reducible rfl) | omega | (show g + 1 ≤ w1.heap.size; omega) | exact rfl)
        intro v8 w8 h8 f8 o8
        obtain ⟨A8, c8n, hv8, _, _, _⟩ := h8.form
        rw [List.length_append, List.length_singleton] at hv8
        subst hv8
        have hng : ¬ some g = foot v := fun e => by have := HO1.out.ge _ e; omega
        have hB8 := (HB1.out.drewN nq).fr f8 hng
        have hb8 : Below g w w8 := (Below.manyDrew Hb1.out nq).trans (f8.below0 (by show g ≤ w1.heap.size; omega) (fun q hq => by have := HO1.out.ge _ hq; omega))
        have c8 : w8.cell? ⟨g, 32, none⟩ = some v := (hB8.cell 32).trans (walkC_k ha hb)
        have f8' := hB8.frozen 32
        have HB8 := hid (hB8.put 32 (.slice A8 (K.length + 1) c8n))
        rw [walkC_putk ha hb] at HB8
        have HO8 := hid (show Ow cellI 1 (g + 1) 3 (w8.setCell ⟨g, 32, none⟩ (.slice A8 (K.length + 1) c8n)) (.slice A8 (K.length + 1) c8n) (K ++ [(i : Int) - 8]) from h8.fr (S := fun x => x = g) (Fr.setCell (S := fun x => x = g) (Fr.refl _ _) (.inl rfl) _) (fun q hq hqg => by have := (h8.lt hq).1; omega))
        have Hb8 := hid (hb8.setCell (p := ⟨g, 32, none⟩) (Nat.le_refl _) (.slice A8 (K.length + 1) c8n))
        clear hB8 hb8 h8 f8 o8
        go_wp2_with fail
        (first | go_end0 | (refine bodyPost_ret (results_none rfl _ _ _) rfl ?_) | (refine bodyPost_end (results_none rfl _ _ _) rfl ?_))
        exact ⟨_, rfl, HB8.out, HO8.out, Hb8.out⟩
      · have HF := hid (partF_node (f := fun j => fa.getD j 0) (g := fun j => fb.getD j 0) he (show ¬ (8 ≤ i ∨ i = 0) by omega))
        have h8' : ¬ (8 : Int) ≤ (i : Int) := by omega
        have hs1 := partF_sz (f := fun j => fa.getD j 0) (g := fun j => fb.getD j 0) (2 * i) (by omega)
        have HI1 := hid (fun W hB hO => IH.out (2 * i) (by omega) (by omega) (by omega) v K (n + 1) W hB hO (by omega) (by omega))
        have HI2 := hid (fun v' W hB hO => IH.out (2 * i + 1) (by omega) (by omega) (by omega) v' (K ++ (partF (fun j => fa.getD j 0) (fun j => fb.getD j 0) (2 * i)).1) (n + 1 + (partF (fun j => fa.getD j 0) (fun j => fb.getD j 0) (2 * i)).2) W hB hO (by rw [List.length_append]; omega) (by omega))
        rw [show (((2 * i : Nat)) : Int) = 2 * (i : Int) by omega] at HI1
        rw [show (((2 * i + 1 : Nat)) : Int) = 2 * (i : Int) + 1 by omega] at HI2
        rw [HF.out]
        clear HF
        generalize partF (fun j => fa.getD j 0) (fun j => fb.getD j 0) (2 * i) = P1 at *
        generalize partF (fun j => fa.getD j 0) (fun j => fb.getD j 0) (2 * i + 1) = P2 at *
        obtain ⟨K1, n1⟩ := P1
        obtain ⟨K2, n2⟩ := P2
        generalize fa.getD i 0 = x at *
        generalize fb.getD i 0 = y at *
        clear he
        go_enter Tryd.func79, Tryd.ntmps79
        go_wp2_with fail
        rw [← Hw1.out]
        go_quiet (fail)
        rename_i nq
        go_wp2_with fail
        refine (HI1.out _ (HB1.out.drewN nq) (HO1.out.drewN nq)).mono ?_
        rintro e w2 ⟨v2, rfl, hB2, hO2, hb2⟩
        have HI3 := hid (HI2.out v2 w2 hB2 hO2)
        have Hb2 := hid ((Below.manyDrew Hb1.out nq).trans hb2)
        clear hB2 hO2 hb2
        go_wp2_with fail
        refine HI3.out.mono ?_
        rintro e w3 ⟨v3, rfl, hB3, hO3, hb3⟩
        have HB3 := hid hB3
        have HO3 := hid hO3
        have Hb3 := hid (Hb2.out.trans hb3)
        clear hB3 hO3 hb3
        go_wp2_with fail
        (first | go_end0 | (refine bodyPost_ret (results_none rfl _ _ _) rfl ?_) | (refine bodyPost_end (results_none rfl _ _ _) rfl ?_))
        refine ⟨v3, rfl, ?_, ?_, Hb3.out⟩
        · have := HB3.out
          rw [show n + 1 + n1 + n2 = n + (n1 + n2 + 1) by omega] at this
          exact this
        · have := HO3.out
          rw [List.append_assoc] at this
          exact this
end Go.Proofs.YthjbebngedajiaaDoor
