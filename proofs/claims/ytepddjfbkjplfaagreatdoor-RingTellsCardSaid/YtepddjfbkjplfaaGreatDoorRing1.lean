/-
  CONTRACTS: ring.Node, cmp.Compare, cmp.Or, ring.order, slices.SortFunc and slices.Compact at points of the call's own. CONDITIONS: none.
-/
import Derived.Test.YtepddjfbkjplfaaGreatDoorRgLaw
import Derived.Test.YtepddjfbkjplfaaGreatDoorSortK
import Derived.Test.YtepddjfbkjplfaaGreatDoorSortL
import Derived.Shelf.SlSortCmp.NoneTotal
import Derived.Deep.CutBlock
import Derived.Deep.RegionHeld3
import Derived.Deep.DeepCutAuto
namespace Go.Proofs.YtepddjfbkjplfaaGreatDoor
open Go.RowKit
open Go.ChangeShapes Go.WideShapes Go.ChangeAt
open Go.Sort (grow alloc_eq_grow grow_grow)

def nodeB (n : Int) : Bool := decide (0 ≤ n) && decide (n < 6)
theorem nodeB_true {n : Int} : nodeB n = true ↔ 0 ≤ n ∧ n < 6 := by simp [nodeB]
theorem nodeB_false {n : Int} : nodeB n = false ↔ n < 0 ∨ 6 ≤ n := by
  rw [← Bool.not_eq_true, nodeB_true]; omega
theorem rnode_any (n : Int) (w : World) : Calls Tryz.prog 29 #[.int .i64 n] w fun e w' => e = .returned (.bool (nodeB n)) ∧ w = w' := by
  rcases (show n < 0 ∨ (0 ≤ n ∧ 6 ≤ n) ∨ (0 ≤ n ∧ n < 6) by omega) with h | ⟨h, h2⟩ | ⟨h, h2⟩
  all_goals
    go_enter Tryz.func29, Tryz.ntmps29
    go_wp2
    go_ret
    refine ⟨ret_b ?_, rfl⟩
    symm
    rw [Bool.eq_iff_iff, nodeB_true]
    simp
    try omega
theorem isNaN_any (a : Int) (w : World) : Calls Tryz.prog 55 #[.int .i64 a] w fun e w' => e = .returned (.bool false) ∧ w = w' := by
  go_enter Tryz.func55, Tryz.ntmps55
  go_wp2
  go_ret
  exact ⟨ret_b (by simp), rfl⟩
theorem compare_any (a b : Int) (w : World) : Calls Tryz.prog 35 #[.int .i64 a, .int .i64 b] w fun e w' => e = .returned (.int .i64 (cmpI a b)) ∧ w = w' := by
  unfold cmpI
  rcases (show a < b ∨ (¬ a < b ∧ b < a) ∨ (¬ a < b ∧ ¬ b < a) by omega) with h | ⟨h, h2⟩ | ⟨h, h2⟩
  · rw [if_pos h]
    go_enter Tryz.func35, Tryz.ntmps35
    go_wp2_with (go_at_call 55; refine (isNaN_any _ _).mono ?_; rintro e w' ⟨rfl, rfl⟩)
    go_ret
    exact ⟨rfl, rfl⟩
  · rw [if_neg h, if_pos h2]
    go_enter Tryz.func35, Tryz.ntmps35
    go_wp2_with (go_at_call 55; refine (isNaN_any _ _).mono ?_; rintro e w' ⟨rfl, rfl⟩)
    go_ret
    exact ⟨rfl, rfl⟩
  · rw [if_neg h, if_neg h2]
    go_enter Tryz.func35, Tryz.ntmps35
    go_wp2_with (go_at_call 55; refine (isNaN_any _ _).mono ?_; rintro e w' ⟨rfl, rfl⟩)
    go_ret
    exact ⟨rfl, rfl⟩
set_option maxHeartbeats 1000000 in
theorem or_any (g : Nat) (x y : Int) (w : World) (h0 : w.cell? ⟨g, 0, none⟩ = some (.int .i64 x)) (h1 : w.cell? ⟨g, 1, none⟩ = some (.int .i64 y)) :
    Calls Tryz.prog 34 #[.slice (some ⟨g, 0, none⟩) 2 2] w fun e w' => e = .returned (.int .i64 (orI x y)) ∧ w = w' := by
  unfold orI
  by_cases hx : x = 0
  · rw [if_pos hx]
    subst hx
    by_cases hy : y = 0
    · subst hy
      go_enter Tryz.func34, Tryz.ntmps34
      go_wp2
      refine wp_loop_rounds 3 ?_
      rw [rounds_succ]
      go_wp2
      rw [rounds_succ]
      go_wp2
      rw [rounds_succ]
      go_wp2
      go_ret
      exact ⟨rfl, rfl⟩
    · have hyb : (y == 0) = false := by rw [beq_eq_false_iff_ne]; exact hy
      clear hy
      go_enter Tryz.func34, Tryz.ntmps34
      go_wp2
      refine wp_loop_rounds 3 ?_
      rw [rounds_succ]
      go_wp2
      rw [rounds_succ]
      go_wp2
      go_ret
      exact ⟨rfl, rfl⟩
  · rw [if_neg hx]
    have hxb : (x == 0) = false := by rw [beq_eq_false_iff_ne]; exact hx
    clear hx
    go_enter Tryz.func34, Tryz.ntmps34
    go_wp2
    refine wp_loop_rounds 3 ?_
    rw [rounds_succ]
    go_wp2
    go_ret
    exact ⟨rfl, rfl⟩
theorem grow_drewN (w : World) (os : Array Obj) (n : Nat) : (grow w os).drewN n = grow (w.drewN n) os := rfl

/-- behind the boxes of two points: their cells, and nothing but new blocks -/
def OrdS (W1 : World) (b : Nat) (x0 x1 y0 y1 : Int) (X : World) : Prop :=
  (∃ os, X = grow W1.drew os) ∧ X.cell? ⟨b, 0, none⟩ = some (.int .i64 x0) ∧ X.cell? ⟨b, 1, none⟩ = some (.int .i64 x1) ∧ X.cell? ⟨b + 1, 0, none⟩ = some (.int .i64 y0) ∧ X.cell? ⟨b + 1, 1, none⟩ = some (.int .i64 y1)
theorem OrdS.alloc {W1 X : World} {b : Nat} {x0 x1 y0 y1 : Int} (o : Obj) (hb : W1.heap.size = b + 2) (h : OrdS W1 b x0 x1 y0 y1 X) : OrdS W1 b x0 x1 y0 y1 (X.alloc o) := by
  obtain ⟨⟨os, rfl⟩, h0, h1, h2, h3⟩ := h
  have hz : b + 2 ≤ (grow W1.drew os).heap.size := by
    have : (grow W1.drew os).heap.size = W1.heap.size + os.size := by simp [grow]
    omega
  exact ⟨⟨os ++ #[o], by rw [alloc_eq_grow, grow_grow]⟩, (World.cell?_alloc_lt _ o ⟨b, 0, none⟩ (by simp only; omega)).trans h0, (World.cell?_alloc_lt _ o ⟨b, 1, none⟩ (by simp only; omega)).trans h1, (World.cell?_alloc_lt _ o ⟨b + 1, 0, none⟩ (by simp only; omega)).trans h2, (World.cell?_alloc_lt _ o ⟨b + 1, 1, none⟩ (by simp only; omega)).trans h3⟩
set_option maxHeartbeats 4000000 in
theorem order_lays (x0 x1 y0 y1 : Int) (W : World) : Calls Tryz.prog 20 #[.agg #[.int .i64 x0, .int .i64 x1], .agg #[.int .i64 y0, .int .i64 y1]] W
    fun e w' => e = .returned (.int .i64 (ordP ⟨x0, x1⟩ ⟨y0, y1⟩)) ∧ ∃ q os', w' = grow (W.drewN q) os' := by
  have HC1 := hid (compare_any x0 y0)
  have HC2 := hid (compare_any x1 y1)
  unfold ordP
  simp only
  generalize cmpI x0 y0 = c1 at *
  generalize cmpI x1 y1 = c2 at *
  have hX := Blk.new (W.alloc (.cells #[.int .i64 x0, .int .i64 x1] 44)) 44 #[.int .i64 y0, .int .i64 y1]
  have hY := (Blk.new W 44 #[.int .i64 x0, .int .i64 x1]).alloc (.cells #[.int .i64 y0, .int .i64 y1] 44)
  obtain ⟨W1, hW1⟩ : ∃ W1 : World, W1 = (W.alloc (.cells #[.int .i64 x0, .int .i64 x1] 44)).alloc (.cells #[.int .i64 y0, .int .i64 y1] 44) := ⟨_, rfl⟩
  have HW1 := hid hW1
  rw [← hW1] at hX hY
  have i0 : W1.cell? ⟨W.heap.size, 0, none⟩ = some (.int .i64 x0) := hY.cell 0
  have i1 : W1.cell? ⟨W.heap.size, 1, none⟩ = some (.int .i64 x1) := hY.cell 1
  have i2 : W1.cell? ⟨W.heap.size + 1, 0, none⟩ = some (.int .i64 y0) := by have := hX.cell 0; rwa [World.size_alloc] at this
  have i3 : W1.cell? ⟨W.heap.size + 1, 1, none⟩ = some (.int .i64 y1) := by have := hX.cell 1; rwa [World.size_alloc] at this
  have hl1 : W1.heap.size = W.heap.size + 2 := by rw [hW1]; simp
  have Hl1 := hid hl1
  have HS0 := hid (show OrdS W1 W.heap.size x0 x1 y0 y1 W1.drew from ⟨⟨#[], by simp [grow]; rfl⟩, i0, i1, i2, i3⟩)
  clear hX hY i0 i1 i2 i3 hW1 hl1
  go_enter Tryz.func20, Tryz.ntmps20
  go_upto_region 1 with fail
  rw [← HW1.out]
  go_region_held3 (fun X => (∃ os, X = grow W1.drew os) ∧ X.cell? ⟨W.heap.size, 0, none⟩ = some (.int .i64 x0) ∧ X.cell? ⟨W.heap.size, 1, none⟩ = some (.int .i64 x1) ∧ X.cell? ⟨W.heap.size + 1, 0, none⟩ = some (.int .i64 y0) ∧ X.cell? ⟨W.heap.size + 1, 1, none⟩ = some (.int .i64 y1)) (first | exact HS0.out | assumption | (go_split_ands; exact OrdS.alloc _ Hl1.out (by assumption))) (first | (go_at_call 35; first | (with_reducible refine (HC1.out _).mono ?_; rintro e w' ⟨rfl, rfl⟩) | (with_reducible refine (HC2.out _).mono ?_; rintro e w' ⟨rfl, rfl⟩)) | (go_at_call 34; refine (or_any _ c1 c2 _ (by simp [go_sem]) (by simp [go_sem])).mono ?_; rintro e w' ⟨rfl, rfl⟩))
  all_goals
    go_wp2_with fail
    go_ret
    refine ⟨rfl, 1, #[.cells #[.int .i64 x0, .int .i64 x1] 44, .cells #[.int .i64 y0, .int .i64 y1] 44, .cells #[.int .i64 c1, .int .i64 c2] 3], ?_⟩
    rw [HW1.out, alloc_eq_grow, alloc_eq_grow, alloc_eq_grow, grow_grow, grow_grow]
    rfl
theorem order_any (x y : Pt) (W : World) : Calls Tryz.prog 20 #[x.val, y.val] W fun e w' => e = .returned (.int .i64 (ordP x y)) ∧ Below W.heap.size W w' := by
  refine (order_lays x.pos x.node y.pos y.node W).mono ?_
  rintro e w' ⟨rfl, q, os, rfl⟩
  exact ⟨rfl, (Below.manyDrew (Below.refl _ _) q).trans ((fr_grow (S := fun _ => False) (W.drewN q) os).gone (fun _ _ h => h))⟩
theorem ltOf_ordP : ltOf ordP = ltP := by
  funext x y
  unfold ltOf
  rw [Bool.eq_iff_iff, decide_eq_true_eq, ordP_neg]
set_option maxHeartbeats 1000000 in
theorem psort_any (base g off cap : Nat) (l : List Pt) (w : World) (hl : 0 < l.length) (hO : Ow Pt.cells 2 base 44 w (.slice (some ⟨g, off, none⟩) l.length cap) l) (hn : l.length ≤ 1000) :
    Calls Tryz.prog 19 #[.slice (some ⟨g, off, none⟩) l.length cap, .func (.func 20) #[] #[]] w
      fun e w' => e = .returned (.tuple #[]) ∧ Ow Pt.cells 2 base 44 w' (.slice (some ⟨g, off, none⟩) l.length cap) (sortP l) ∧ Fr (fun k => k = g) w w' := by
  have eg : ∀ args w, (callFunc 20 args).run Tryz.prog w = .ok (.enter 20 args) w := enters_of Tryz.func20 (by kernel_rfl) rfl
  obtain ⟨hH, hb⟩ := hO.holdsK Pt.cells_length (by decide) hl
  have hcon := AnyQ.slices_SortFunc_total Tryz.sortP 2 Tryz.isAgg44 Tryz.sizeOf44 Pt.cells (fun _ => rfl) (fun x => x.one) ordP (by rw [ltOf_ordP]; exact swo_ltP) 20 #[] g off cap l.toArray w eg (fun _ _ _ _ x y => order_lays x.pos x.node y.pos y.node _) hH hb (by simp; omega) (by rw [ltOf_ordP]; exact fun x y => ltP_tot)
  rw [show l.toArray.size = l.length by simp] at hcon
  refine hcon.mono ?_
  rintro e w' ⟨rfl, n, os, rfl⟩
  refine ⟨rfl, ?_, fr_sortWorldK _ _ _⟩
  rw [ltOf_ordP]
  have := hO.sorted Pt.cells_length (by decide) hl n (sortP l).toArray os (by simp [sortP_length])
  exact this
end Go.Proofs.YtepddjfbkjplfaaGreatDoor
