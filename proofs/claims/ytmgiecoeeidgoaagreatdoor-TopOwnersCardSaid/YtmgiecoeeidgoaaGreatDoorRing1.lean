/-
  CONTRACTS: ring.Node, cmp.Compare, cmp.Or, ring.order, slices.SortFunc and slices.Compact at points of the call's own. CONDITIONS: none.
  CONTRACT of slices.Compact at points of the call's own. CONDITIONS: none.
-/
import Derived.Test.YtmgiecoeeidgoaaGreatDoorPt
import Derived.Test.YtmgiecoeeidgoaaGreatDoorSortK
import Derived.Test.YtmgiecoeeidgoaaGreatDoorSortL
import Derived.Shelf.SlSortCmp.NoneTotal
import Derived.Deep.CutBlock
import Derived.Deep.RegionHeld3
import Derived.Deep.DeepCutAuto
namespace Go.Proofs.YtmgiecoeeidgoaaGreatDoor
open Go.RowKit
open Go.ChangeShapes Go.WideShapes Go.ChangeAt
open Go.Sort (grow alloc_eq_grow grow_grow)

def nodeB (n : Int) : Bool := decide (0 ≤ n) && decide (n < 6)
theorem nodeB_true {n : Int} : nodeB n = true ↔ 0 ≤ n ∧ n < 6 := by simp [nodeB]
theorem nodeB_false {n : Int} : nodeB n = false ↔ n < 0 ∨ 6 ≤ n := by
  rw [← Bool.not_eq_true, nodeB_true]; omega
theorem rnode_any (n : Int) (w : World) : Calls Tryz.prog 51 #[.int .i64 n] w fun e w' => e = .returned (.bool (nodeB n)) ∧ w = w' := by
  rcases (show n < 0 ∨ (0 ≤ n ∧ 6 ≤ n) ∨ (0 ≤ n ∧ n < 6) by omega) with h | ⟨h, h2⟩ | ⟨h, h2⟩
  all_goals
    go_enter Tryz.func51, Tryz.ntmps51
    go_wp2
    go_ret
    refine ⟨ret_b ?_, rfl⟩
    symm
    rw [Bool.eq_iff_iff, nodeB_true]
    simp
    try omega
theorem isNaN_any (a : Int) (w : World) : Calls Tryz.prog 87 #[.int .i64 a] w fun e w' => e = .returned (.bool false) ∧ w = w' := by
  go_enter Tryz.func87, Tryz.ntmps87
  go_wp2
  go_ret
  exact ⟨ret_b (by simp), rfl⟩
theorem compare_any (a b : Int) (w : World) : Calls Tryz.prog 57 #[.int .i64 a, .int .i64 b] w fun e w' => e = .returned (.int .i64 (cmpI a b)) ∧ w = w' := by
  unfold cmpI
  rcases (show a < b ∨ (¬ a < b ∧ b < a) ∨ (¬ a < b ∧ ¬ b < a) by omega) with h | ⟨h, h2⟩ | ⟨h, h2⟩
  · rw [if_pos h]
    go_enter Tryz.func57, Tryz.ntmps57
    go_wp2_with (go_at_call 87; refine (isNaN_any _ _).mono ?_; rintro e w' ⟨rfl, rfl⟩)
    go_ret
    exact ⟨rfl, rfl⟩
  · rw [if_neg h, if_pos h2]
    go_enter Tryz.func57, Tryz.ntmps57
    go_wp2_with (go_at_call 87; refine (isNaN_any _ _).mono ?_; rintro e w' ⟨rfl, rfl⟩)
    go_ret
    exact ⟨rfl, rfl⟩
  · rw [if_neg h, if_neg h2]
    go_enter Tryz.func57, Tryz.ntmps57
    go_wp2_with (go_at_call 87; refine (isNaN_any _ _).mono ?_; rintro e w' ⟨rfl, rfl⟩)
    go_ret
    exact ⟨rfl, rfl⟩
set_option maxHeartbeats 1000000 in
theorem or_any (g : Nat) (x y : Int) (w : World) (h0 : w.cell? ⟨g, 0, none⟩ = some (.int .i64 x)) (h1 : w.cell? ⟨g, 1, none⟩ = some (.int .i64 y)) :
    Calls Tryz.prog 56 #[.slice (some ⟨g, 0, none⟩) 2 2] w fun e w' => e = .returned (.int .i64 (orI x y)) ∧ w = w' := by
  unfold orI
  by_cases hx : x = 0
  · rw [if_pos hx]
    subst hx
    by_cases hy : y = 0
    · subst hy
      go_enter Tryz.func56, Tryz.ntmps56
      go_wp2
      refine wp_loop_rounds 3 ?_
      rw [rounds_succ]
      go_wp2
      rw [rounds_succ]
      go_wp2
      rw [rounds_succ]
      go_wp2
      go_ret
      exact ⟨rfl, rfl⟩
    · have hyb : (y == 0) = false := by rw [beq_eq_false_iff_ne]; exact hy
      clear hy
      go_enter Tryz.func56, Tryz.ntmps56
      go_wp2
      refine wp_loop_rounds 3 ?_
      rw [rounds_succ]
      go_wp2
      rw [rounds_succ]
      go_wp2
      go_ret
      exact ⟨rfl, rfl⟩
  · rw [if_neg hx]
    have hxb : (x == 0) = false := by rw [beq_eq_false_iff_ne]; exact hx
    clear hx
    go_enter Tryz.func56, Tryz.ntmps56
    go_wp2
    refine wp_loop_rounds 3 ?_
    rw [rounds_succ]
    go_wp2
    go_ret
    exact ⟨rfl, rfl⟩
theorem grow_drewN (w : World) (os : Array Obj) (n : Nat) : (grow w os).drewN n = grow (w.drewN n) os := rfl

/-- behind the boxes of two points: their cells, and nothing but new blocks -/
def OrdS (W1 : World) (b : Nat) (x0 x1 y0 y1 : Int) (X : World) : Prop :=
  (∃ os, X = grow W1.drew os) ∧ X.cell? ⟨b, 0, none⟩ = some (.int .i64 x0) ∧ X.cell? ⟨b, 1, none⟩ = some (.int .i64 x1) ∧ X.cell? ⟨b + 1, 0, none⟩ = some (.int .i64 y0) ∧ X.cell? ⟨b + 1, 1, none⟩ = some (.int .i64 y1)
theorem OrdS.alloc {W1 X : World} {b : Nat} {x0 x1 y0 y1 : Int} (o : Obj) (hb : W1.heap.size = b + 2) (h : OrdS W1 b x0 x1 y0 y1 X) : OrdS W1 b x0 x1 y0 y1 (X.alloc o) := by
  obtain ⟨⟨os, rfl⟩, h0, h1, h2, h3⟩ := h
  have hz : b + 2 ≤ (grow W1.drew os).heap.size := by
    have : (grow W1.drew os).heap.size = W1.heap.size + os.size := by simp [grow]
    omega
  exact ⟨⟨os ++ #[o], by rw [alloc_eq_grow, grow_grow]⟩, (World.cell?_alloc_lt _ o ⟨b, 0, none⟩ (by simp only; omega)).trans h0, (World.cell?_alloc_lt _ o ⟨b, 1, none⟩ (by simp only; omega)).trans h1, (World.cell?_alloc_lt _ o ⟨b + 1, 0, none⟩ (by simp only; omega)).trans h2, (World.cell?_alloc_lt _ o ⟨b + 1, 1, none⟩ (by simp only; omega)).trans h3⟩
set_option maxHeartbeats 4000000 in
theorem order_lays (x0 x1 y0 y1 : Int) (W : World) : Calls Tryz.prog 25 #[.agg #[.int .i64 x0, .int .i64 x1], .agg #[.int .i64 y0, .int .i64 y1]] W
    fun e w' => e = .returned (.int .i64 (ordP ⟨x0, x1⟩ ⟨y0, y1⟩)) ∧ ∃ q os', w' = grow (W.drewN q) os' := by
  have HC1 := hid (compare_any x0 y0)
  have HC2 := hid (compare_any x1 y1)
  unfold ordP
  simp only
  generalize cmpI x0 y0 = c1 at *
  generalize cmpI x1 y1 = c2 at *
  have hX := Blk.new (W.alloc (.cells #[.int .i64 x0, .int .i64 x1] 63)) 63 #[.int .i64 y0, .int .i64 y1]
  have hY := (Blk.new W 63 #[.int .i64 x0, .int .i64 x1]).alloc (.cells #[.int .i64 y0, .int .i64 y1] 63)
  obtain ⟨W1, hW1⟩ : ∃ W1 : World, W1 = (W.alloc (.cells #[.int .i64 x0, .int .i64 x1] 63)).alloc (.cells #[.int .i64 y0, .int .i64 y1] 63) := ⟨_, rfl⟩
  have HW1 := hid hW1
  rw [← hW1] at hX hY
  have i0 : W1.cell? ⟨W.heap.size, 0, none⟩ = some (.int .i64 x0) := hY.cell 0
  have i1 : W1.cell? ⟨W.heap.size, 1, none⟩ = some (.int .i64 x1) := hY.cell 1
  have i2 : W1.cell? ⟨W.heap.size + 1, 0, none⟩ = some (.int .i64 y0) := by have := hX.cell 0; rwa [World.size_alloc] at this
  have i3 : W1.cell? ⟨W.heap.size + 1, 1, none⟩ = some (.int .i64 y1) := by have := hX.cell 1; rwa [World.size_alloc] at this
  have hl1 : W1.heap.size = W.heap.size + 2 := by rw [hW1]; simp
  have Hl1 := hid hl1
  have HS0 := hid (show OrdS W1 W.heap.size x0 x1 y0 y1 W1.drew from ⟨⟨#[], by simp [grow]; rfl⟩, i0, i1, i2, i3⟩)
  clear hX hY i0 i1 i2 i3 hW1 hl1
  go_enter Tryz.func25, Tryz.ntmps25
  go_upto_region 1 with fail
  rw [← HW1.out]
  go_region_held3 (fun X => (∃ os, X = grow W1.drew os) ∧ X.cell? ⟨W.heap.size, 0, none⟩ = some (.int .i64 x0) ∧ X.cell? ⟨W.heap.size, 1, none⟩ = some (.int .i64 x1) ∧ X.cell? ⟨W.heap.size + 1, 0, none⟩ = some (.int .i64 y0) ∧ X.cell? ⟨W.heap.size + 1, 1, none⟩ = some (.int .i64 y1)) (first | exact HS0.out | assumption | (go_split_ands; exact OrdS.alloc _ Hl1.out (by assumption))) (first | (go_at_call 57; first | (with_reducible refine (HC1.out _).mono ?_; rintro e w' ⟨rfl, rfl⟩) | (with_reducible refine (HC2.out _).mono ?_; rintro e w' ⟨rfl, rfl⟩)) | (go_at_call 56; refine (or_any _ c1 c2 _ (by simp [go_sem]) (by simp [go_sem])).mono ?_; rintro e w' ⟨rfl, rfl⟩))
  all_goals
    go_wp2_with fail
    go_ret
    refine ⟨rfl, 1, #[.cells #[.int .i64 x0, .int .i64 x1] 63, .cells #[.int .i64 y0, .int .i64 y1] 63, .cells #[.int .i64 c1, .int .i64 c2] 3], ?_⟩
    rw [HW1.out, alloc_eq_grow, alloc_eq_grow, alloc_eq_grow, grow_grow, grow_grow]
    rfl
theorem order_any (x y : Pt) (W : World) : Calls Tryz.prog 25 #[x.val, y.val] W fun e w' => e = .returned (.int .i64 (ordP x y)) ∧ Below W.heap.size W w' := by
  refine (order_lays x.pos x.node y.pos y.node W).mono ?_
  rintro e w' ⟨rfl, q, os, rfl⟩
  exact ⟨rfl, (Below.manyDrew (Below.refl _ _) q).trans ((fr_grow (S := fun _ => False) (W.drewN q) os).gone (fun _ _ h => h))⟩
theorem ltOf_ordP : ltOf ordP = ltP := by
  funext x y
  unfold ltOf
  rw [Bool.eq_iff_iff, decide_eq_true_eq, ordP_neg]
set_option maxHeartbeats 1000000 in
theorem psort_any (base g off cap : Nat) (l : List Pt) (w : World) (hl : 0 < l.length) (hO : Ow Pt.cells 2 base 63 w (.slice (some ⟨g, off, none⟩) l.length cap) l) (hn : l.length ≤ 1000) :
    Calls Tryz.prog 24 #[.slice (some ⟨g, off, none⟩) l.length cap, .func (.func 25) #[] #[]] w
      fun e w' => e = .returned (.tuple #[]) ∧ Ow Pt.cells 2 base 63 w' (.slice (some ⟨g, off, none⟩) l.length cap) (sortP l) ∧ Fr (fun k => k = g) w w' := by
  have eg : ∀ args w, (callFunc 25 args).run Tryz.prog w = .ok (.enter 25 args) w := enters_of Tryz.func25 (by kernel_rfl) rfl
  obtain ⟨hH, hb⟩ := hO.holdsK Pt.cells_length (by decide) hl
  have hcon := AnyQ.slices_SortFunc_total Tryz.sortP 2 Tryz.isAgg63 Tryz.sizeOf63 Pt.cells (fun _ => rfl) (fun x => x.one) ordP (by rw [ltOf_ordP]; exact swo_ltP) 25 #[] g off cap l.toArray w eg (fun _ _ _ _ x y => order_lays x.pos x.node y.pos y.node _) hH hb (by simp; omega) (by rw [ltOf_ordP]; exact fun x y => ltP_tot)
  rw [show l.toArray.size = l.length by simp] at hcon
  refine hcon.mono ?_
  rintro e w' ⟨rfl, n, os, rfl⟩
  refine ⟨rfl, ?_, fr_sortWorldK _ _ _⟩
  rw [ltOf_ordP]
  have := hO.sorted Pt.cells_length (by decide) hl n (sortP l).toArray os (by simp [sortP_length])
  exact this
end Go.Proofs.YtmgiecoeeidgoaaGreatDoor
namespace Go.Proofs.YtmgiecoeeidgoaaGreatDoor
open Go.RowKit
open Go.ChangeShapes Go.WideShapes Go.ChangeAt

theorem Ow.room {α : Type} {cells : α → List Value} {n base : Nat} {T : TypeId} {w : World} {g off len cap : Nat} {l : List α} (h : Ow cells n base T w (.slice (some ⟨g, off, none⟩) len cap) l) (h0 : 0 < l.length) :
    len = l.length ∧ l.length ≤ cap ∧ cap ≤ maxLen ∧ base ≤ g ∧ g < w.heap.size := by
  obtain ⟨g', off', cap', he, h1, h2, h3, h4, _⟩ := h.get h0
  cases he
  exact ⟨rfl, h1, h2, h3, h4⟩
set_option maxHeartbeats 8000000 in
set_option maxRecDepth 100000 in
theorem compact_any (base g off cap : Nat) (l : List Pt) (w : World) (h0 : 0 < l.length) (hO : Ow Pt.cells 2 base 63 w (.slice (some ⟨g, off, none⟩) l.length cap) l) (hn : l.length ≤ 1000) :
    Calls Tryz.prog 26 #[.slice (some ⟨g, off, none⟩) l.length cap] w fun e w' =>
      ∃ k, e = .returned (.slice (some ⟨g, off, none⟩) k cap) ∧ Ow Pt.cells 2 base 63 w' (.slice (some ⟨g, off, none⟩) k cap) (compP l) ∧ Fr (fun j => j = g) w w' := by
  obtain ⟨-, hlc, hcm, -, hgl⟩ := hO.room h0
  unfold maxLen at hcm
  have HO := hid hO
  clear hO
  by_cases h2 : l.length < 2
  · have h1 : l.length = 1 := by omega
    have hc1 : compP l = l := by
      have := compP_one h0
      rw [← h1, List.take_length] at this
      exact this
    have h2' : (l.length : Int) < 2 := by omega
    go_enter Tryz.func26, Tryz.ntmps26
    go_wp2_with fail
    go_ret
    exact ⟨l.length, rfl, by rw [hc1]; exact HO.out, Fr.refl _ _⟩
  have h2' : ¬ (l.length : Int) < 2 := by omega
  have hC1 := hid (compP_one h0)
  go_enter Tryz.func26, Tryz.ntmps26
  go_wp2_with fail
  go_loopw [3] (fun i wr => ∃ k : Nat, 1 ≤ k ∧ k ≤ l.length ∧ i = .int .i64 k ∧ compP (l.take k) = l.take k ∧ Below w.heap.size w wr) (fun i _ => l.length - (intOf i).toNat)
  case atStart => exact ⟨1, Nat.le_refl _, by omega, rfl, hC1.out, Below.refl _ _⟩
  case round =>
    obtain ⟨k, hk1, hk, rfl, hc, hbr⟩ := hrel
    obtain ⟨wk, rfl⟩ : ∃ wk : World, wk = wr := ⟨_, rfl⟩
    have hOk := HO.out.belowS hbr
    have Hbr := hid hbr
    have Hc := hid hc
    have hzk := hbr.size
    by_cases hlt : k < l.length
    · obtain ⟨c0, c1⟩ := hOk.ptAt hlt
      obtain ⟨d0, d1⟩ := hOk.ptAt (show k - 1 < l.length by omega)
      have hsucc := compP_take_succ (l := l) (k := k - 1) (by omega)
      rw [show k - 1 + 2 = k + 1 by omega, show k - 1 + 1 = k by omega, hc] at hsucc
      have htk := take_snocD Pt.zero hlt
      have hgk : g < wk.heap.size := by omega
      have heqi := eqbPt_iff (l.getD k Pt.zero) (l.getD (k - 1) Pt.zero)
      obtain ⟨x, hx⟩ : ∃ x, l.getD k Pt.zero = x := ⟨_, rfl⟩
      obtain ⟨y, hy⟩ : ∃ y, l.getD (k - 1) Pt.zero = y := ⟨_, rfl⟩
      rw [hx] at c0 c1 hsucc htk heqi
      rw [hy] at d0 d1 hsucc heqi
      obtain ⟨x0, x1⟩ := x
      obtain ⟨y0, y1⟩ := y
      simp only at c0 c1 d0 d1
      have hk0 : 0 < k := by omega
      have hkl : (k : Int) < (l.length : Int) := by omega
      have heq := fun W => eqRunPt x0 x1 y0 y1 W
      have HOk := hid hOk
      have Hx := hid hx
      have Hy := hid hy
      clear hc hbr hOk hx hy
      rcases hb : eqbPt ⟨x0, x1⟩ ⟨y0, y1⟩ with _ | _
      · have hne : ¬ (⟨y0, y1⟩ : Pt) = ⟨x0, x1⟩ := fun e => by
          rw [e, eqbPt_refl] at hb
          cases hb
        rw [if_neg hne, ← htk] at hsucc
        have Hs := hid hsucc
        rw [hb] at heq
        clear hsucc htk heqi hb hne
        go_wp2_with fail
        go_quiet (fail)
        go_wp2_with fail
        go_roundw
        case rel => exact ⟨k + 1, by omega, by omega, by go_num, Hs.out, Below.manyDrew Hbr.out _⟩
        case measure => simp [intOf]; omega
      · have hxy : (⟨x0, x1⟩ : Pt) = ⟨y0, y1⟩ := heqi.1 hb
        rw [if_pos hxy.symm] at hsucc
        have Hs := hid hsucc
        rw [hb] at heq
        clear hsucc htk heqi hb hxy
        go_wp2_with fail
        go_quiet (fail)
        have hck : ¬ cap = k := by omega
        have hkc : k ≤ cap := by omega
        have hlc' : (l.length : Int) ≤ (cap : Int) := by omega
        have hkl' : (k : Int) ≤ (l.length : Int) := by omega
        clear c0 c1 d0 d1 heq
        go_wp2_with fail
        go_loopw [3, 5] (fun i j wr => ∃ (m k2 : Nat) (L : List Pt), i = .int .i64 m ∧ j = .int .i64 k2 ∧ 1 ≤ k2 ∧ k + k2 ≤ l.length ∧ m < k + k2 ∧ L.length = l.length ∧ compP (l.take (k + k2)) = L.take m ∧ (∀ q, k + k2 ≤ q + 1 → L.getD q Pt.zero = l.getD q Pt.zero) ∧
          Ow Pt.cells 2 base 63 wr (.slice (some ⟨g, off, none⟩) l.length cap) L ∧ Fr (fun j => j = g) w wr) (fun _ j _ => l.length - (intOf j).toNat)
        case atStart => exact ⟨k, 1, l, rfl, rfl, Nat.le_refl _, by omega, by omega, rfl, Hs.out, fun _ _ => rfl, HOk.out.drewN _, (Fr.ofB Hbr.out).drewN _⟩
        case round =>
          obtain ⟨m, k2, L, rfl, rfl, hk2, hkk, hm, hLl, hcm2, hsame, hOw, hF⟩ := hrel
          obtain ⟨wj, rfl⟩ : ∃ wj : World, wj = wr := ⟨_, rfl⟩
          have HF := hid hF
          have hgj : g < wj.heap.size := by have := hF.size; omega
          have Hcm := hid hcm2
          have Hsame := hid hsame
          have HLl := hid hLl
          clear hF hcm2 hsame
          by_cases hlt2 : k + k2 < l.length
          · obtain ⟨c0, c1⟩ := hOw.ptAt (show k + k2 < L.length by omega)
            obtain ⟨d0, d1⟩ := hOw.ptAt (show k + k2 - 1 < L.length by omega)
            obtain ⟨e0, e1⟩ := hOw.ptAt (show m < L.length by omega)
            obtain ⟨cur, hB, hcur⟩ := hOw.blk (by omega)
            have f0 := hB.frozen (off + m * 2)
            have f1 := hB.frozen (off + m * 2 + 1)
            rw [Hsame.out _ (by omega)] at c0 c1 d0 d1
            rw [show off + (k + k2) * 2 = off + k * 2 + k2 * 2 by omega] at c0 c1
            rw [show off + (k + k2 - 1) * 2 = off + k * 2 + (k2 - 1) * 2 by omega] at d0 d1
            have hsucc := compP_take_succ (l := l) (k := k + k2 - 1) (by omega)
            rw [show k + k2 - 1 + 2 = k + (k2 + 1) by omega, show k + k2 - 1 + 1 = k + k2 by omega, Hcm.out] at hsucc
            have HSet := hid (fun n x => (hOw.drewN n).set Pt.cells_length (i := m) (by omega) x)
            have HOw := hid hOw
            generalize L.getD m Pt.zero = z at *
            obtain ⟨z0, z1⟩ := z
            obtain ⟨u, hu⟩ : ∃ u, l.getD (k + k2) Pt.zero = u := ⟨_, rfl⟩
            obtain ⟨v, hv⟩ : ∃ v, l.getD (k + k2 - 1) Pt.zero = v := ⟨_, rfl⟩
            rw [hu] at c0 c1 hsucc
            rw [hv] at d0 d1 hsucc
            have Hu := hid hu
            obtain ⟨u0, u1⟩ := u
            obtain ⟨v0, v1⟩ := v
            simp only at c0 c1 d0 d1 e0 e1
            have heqi := eqbPt_iff ⟨u0, u1⟩ ⟨v0, v1⟩
            have heq := fun W => eqRunPt u0 u1 v0 v1 W
            have hk20 : 0 < k2 := by omega
            have hk2l : (k2 : Int) < ((l.length - k : Nat) : Int) := by omega
            have hml : (m : Int) < (l.length : Int) := by omega
            clear hOw hB hu hv hLl hcur
            rcases hb : eqbPt ⟨u0, u1⟩ ⟨v0, v1⟩ with _ | _
            · have hne : ¬ (⟨v0, v1⟩ : Pt) = ⟨u0, u1⟩ := fun e => by
                rw [e, eqbPt_refl] at hb
                cases hb
              rw [if_neg hne] at hsucc
              have Hs2 := hid (show compP (l.take (k + (k2 + 1))) = (L.set m ⟨u0, u1⟩).take (m + 1) from by
                rw [hsucc, take_snocD Pt.zero (by rw [List.length_set, HLl.out]; omega), List.take_set, List.set_eq_of_length_le (by rw [List.length_take]; omega), List.getD_eq_getElem?_getD, List.getElem?_set_self (by rw [HLl.out]; omega)]
                rfl)
              have Hsm2 := hid (show ∀ q, k + (k2 + 1) ≤ q + 1 → (L.set m ⟨u0, u1⟩).getD q Pt.zero = l.getD q Pt.zero from fun q hq => by
                rw [← Hsame.out q (by omega), List.getD_eq_getElem?_getD, List.getElem?_set_ne (by omega), List.getD_eq_getElem?_getD])
              rw [hb] at heq
              clear hsucc heqi hb hne
              go_wp2_with fail
              go_quiet (fail)
              go_wp2_with fail
              go_roundw
              case rel => exact ⟨m + 1, k2 + 1, L.set m ⟨u0, u1⟩, by go_num, by go_num, by omega, by omega, by omega, by rw [List.length_set]; exact HLl.out, Hs2.out, Hsm2.out, HSet.out _ ⟨u0, u1⟩, Fr.setCells g [.int .i64 u0, .int .i64 u1] (off + m * 2) _ (HF.out.drewN _) (.inl rfl)⟩
              case measure => simp [intOf]; omega
            · have hxy : (⟨u0, u1⟩ : Pt) = ⟨v0, v1⟩ := heqi.1 hb
              rw [if_pos hxy.symm] at hsucc
              have Hs2 := hid (show compP (l.take (k + (k2 + 1))) = L.take m from hsucc)
              rw [hb] at heq
              clear hsucc heqi hb hxy
              go_wp2_with fail
              go_quiet (fail)
              go_wp2_with fail
              go_roundw
              case rel => exact ⟨m, k2 + 1, L, rfl, by go_num, by omega, by omega, by omega, HLl.out, Hs2.out, fun q hq => Hsame.out q (by omega), HOw.out.drewN _, HF.out.drewN _⟩
              case measure => simp [intOf]; omega
          · have hend : k + k2 = l.length := by omega
            rw [hend, List.take_length] at Hcm
            obtain ⟨cur, hB, hcur⟩ := hOw.blk (by omega)
            obtain ⟨zs, hzs⟩ : ∃ zs, (Builtin.zeroCells Pt.zero.val.cells (l.length - m)).toList = zs := ⟨_, rfl⟩
            have hzl : zs.length = (l.length - m) * 2 := by rw [← hzs, Array.length_toList, size_zeroCells]; rfl
            have hz1 : ∀ u ∈ zs, u.oneCell' = true := by
              rw [← hzs]
              exact zeros_one (z := Pt.zero.val.cells) (by intro k hk; match k, hk with | 0, _ | 1, _ => rfl) (l.length - m)
            have Hzs := hid hzs
            have Hzl := hid hzl
            have Hz1 := hid hz1
            have HB := hid hB
            have Hcur := hid (show off + m * 2 + (l.length - m) * 2 ≤ cur.size by omega)
            have HOw := hid hOw
            have hk2n : ¬ (k2 : Int) < ((l.length - k : Nat) : Int) := by omega
            have hmL : (m : Int) ≤ (l.length : Int) := by omega
            have hmc : m ≤ cap := by omega
            have hcm' : ¬ cap = m := by omega
            clear hzs hzl hz1 hB hcur hOw hLl
            go_wp2_with ((with_reducible refine wpList_clear _ g (off + m * 2) (l.length - m) (cap - m) 2 16 cur 63 24 Pt.zero.val zs Hzs.out HB.out Hcur.out Tryz.underlying24 infoPt rfl Hz1.out rfl _ rfl rfl ?_))
            go_wp2_with fail
            go_ret
            refine ⟨m, rfl, ?_, Fr.setCells g _ _ _ HF.out (.inl rfl)⟩
            rw [Hcm.out]
            have htl : (L.take m).length = m := by rw [List.length_take, HLl.out]; omega
            exact (HOw.out.take (k := m) (by rw [HLl.out]; omega)).far (by rw [htl]; exact Nat.le_refl _) (by rw [Hzl.out]; omega)
    · obtain rfl : k = l.length := by omega
      rw [List.take_length] at Hc
      clear hc hbr hOk
      go_wp2_with fail
      go_ret
      exact ⟨l.length, rfl, by rw [Hc.out]; exact HO.out.belowS Hbr.out, Fr.ofB Hbr.out⟩
end Go.Proofs.YtmgiecoeeidgoaaGreatDoor
