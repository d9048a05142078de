/-
  CONTRACTS: ring.Node, cmp.Compare, cmp.Or, ring.order, slices.SortFunc and slices.Compact at points of the call's own. CONDITIONS: none.
  CONTRACT of slices.Compact at points of the call's own. CONDITIONS: none.
  CONTRACTS: ring.Nodes and ring.Points. CONDITIONS: the library's table of the powers of ten reads as it is laid (Tb).
  CONTRACTS: ring.right, ring.check, slices.IndexFunc at ring.first's closure, ring.first, ring.Owner. CONDITIONS: the library's table of the powers of ten reads as it is laid (Tb).
  CONTRACTS: ring.check, slices.IndexFunc at ring.first's closure, ring.first, ring.Owner. CONDITIONS: the library's table of the powers of ten reads as it is laid (Tb).
-/
import Derived.Test.YtemhdfodghfkfaaGreatDoorPt
import Derived.Test.YtemhdfodghfkfaaGreatDoorSortL
import Derived.Shelf.SlSortCmp.NoneTotal
import Derived.Deep.CutBlock
import Derived.Deep.RegionHeld3
import Derived.Deep.DeepCutAuto
import Derived.Test.YtemhdfodghfkfaaGreatDoorIKit
import Derived.Test.YtemhdfodghfkfaaGreatDoorHEnt
import Derived.StillTailTactics
import Derived.Laws.EntriesVeiled
namespace Go.Proofs.YtemhdfodghfkfaaGreatDoor
open Go.RowKit
open Go.ChangeShapes Go.WideShapes Go.ChangeAt
open Go.Sort (grow alloc_eq_grow grow_grow)

def nodeB (n : Int) : Bool := decide (0 ≤ n) && decide (n < 6)
theorem nodeB_true {n : Int} : nodeB n = true ↔ 0 ≤ n ∧ n < 6 := by simp [nodeB]
theorem nodeB_false {n : Int} : nodeB n = false ↔ n < 0 ∨ 6 ≤ n := by
  rw [← Bool.not_eq_true, nodeB_true]; omega
theorem rnode_any (n : Int) (w : World) : Calls Tryz.prog 63 #[.int .i64 n] w fun e w' => e = .returned (.bool (nodeB n)) ∧ w = w' := by
  rcases (show n < 0 ∨ (0 ≤ n ∧ 6 ≤ n) ∨ (0 ≤ n ∧ n < 6) by omega) with h | ⟨h, h2⟩ | ⟨h, h2⟩
  all_goals
    go_enter Tryz.func63, Tryz.ntmps63
    go_wp2
    go_ret
    refine ⟨ret_b ?_, rfl⟩
    symm
    rw [Bool.eq_iff_iff, nodeB_true]
    simp
    try omega
theorem isNaN_any (a : Int) (w : World) : Calls Tryz.prog 101 #[.int .i64 a] w fun e w' => e = .returned (.bool false) ∧ w = w' := by
  go_enter Tryz.func101, Tryz.ntmps101
  go_wp2
  go_ret
  exact ⟨ret_b (by simp), rfl⟩
theorem compare_any (a b : Int) (w : World) : Calls Tryz.prog 70 #[.int .i64 a, .int .i64 b] w fun e w' => e = .returned (.int .i64 (cmpI a b)) ∧ w = w' := by
  unfold cmpI
  rcases (show a < b ∨ (¬ a < b ∧ b < a) ∨ (¬ a < b ∧ ¬ b < a) by omega) with h | ⟨h, h2⟩ | ⟨h, h2⟩
  · rw [if_pos h]
    go_enter Tryz.func70, Tryz.ntmps70
    go_wp2_with (go_at_call 101; refine (isNaN_any _ _).mono ?_; rintro e w' ⟨rfl, rfl⟩)
    go_ret
    exact ⟨rfl, rfl⟩
  · rw [if_neg h, if_pos h2]
    go_enter Tryz.func70, Tryz.ntmps70
    go_wp2_with (go_at_call 101; refine (isNaN_any _ _).mono ?_; rintro e w' ⟨rfl, rfl⟩)
    go_ret
    exact ⟨rfl, rfl⟩
  · rw [if_neg h, if_neg h2]
    go_enter Tryz.func70, Tryz.ntmps70
    go_wp2_with (go_at_call 101; refine (isNaN_any _ _).mono ?_; rintro e w' ⟨rfl, rfl⟩)
    go_ret
    exact ⟨rfl, rfl⟩
set_option maxHeartbeats 1000000 in
theorem or_any (g : Nat) (x y : Int) (w : World) (h0 : w.cell? ⟨g, 0, none⟩ = some (.int .i64 x)) (h1 : w.cell? ⟨g, 1, none⟩ = some (.int .i64 y)) :
    Calls Tryz.prog 69 #[.slice (some ⟨g, 0, none⟩) 2 2] w fun e w' => e = .returned (.int .i64 (orI x y)) ∧ w = w' := by
  unfold orI
  by_cases hx : x = 0
  · rw [if_pos hx]
    subst hx
    by_cases hy : y = 0
    · subst hy
      go_enter Tryz.func69, Tryz.ntmps69
      go_wp2
      refine wp_loop_rounds 3 ?_
      rw [rounds_succ]
      go_wp2
      rw [rounds_succ]
      go_wp2
      rw [rounds_succ]
      go_wp2
      go_ret
      exact ⟨rfl, rfl⟩
    · have hyb : (y == 0) = false := by rw [beq_eq_false_iff_ne]; exact hy
      clear hy
      go_enter Tryz.func69, Tryz.ntmps69
      go_wp2
      refine wp_loop_rounds 3 ?_
      rw [rounds_succ]
      go_wp2
      rw [rounds_succ]
      go_wp2
      go_ret
      exact ⟨rfl, rfl⟩
  · rw [if_neg hx]
    have hxb : (x == 0) = false := by rw [beq_eq_false_iff_ne]; exact hx
    clear hx
    go_enter Tryz.func69, Tryz.ntmps69
    go_wp2
    refine wp_loop_rounds 3 ?_
    rw [rounds_succ]
    go_wp2
    go_ret
    exact ⟨rfl, rfl⟩
theorem grow_drewN (w : World) (os : Array Obj) (n : Nat) : (grow w os).drewN n = grow (w.drewN n) os := rfl

/-- behind the boxes of two points: their cells, and nothing but new blocks -/
def OrdS (W1 : World) (b : Nat) (x0 x1 y0 y1 : Int) (X : World) : Prop :=
  (∃ os, X = grow W1.drew os) ∧ X.cell? ⟨b, 0, none⟩ = some (.int .i64 x0) ∧ X.cell? ⟨b, 1, none⟩ = some (.int .i64 x1) ∧ X.cell? ⟨b + 1, 0, none⟩ = some (.int .i64 y0) ∧ X.cell? ⟨b + 1, 1, none⟩ = some (.int .i64 y1)
theorem OrdS.alloc {W1 X : World} {b : Nat} {x0 x1 y0 y1 : Int} (o : Obj) (hb : W1.heap.size = b + 2) (h : OrdS W1 b x0 x1 y0 y1 X) : OrdS W1 b x0 x1 y0 y1 (X.alloc o) := by
  obtain ⟨⟨os, rfl⟩, h0, h1, h2, h3⟩ := h
  have hz : b + 2 ≤ (grow W1.drew os).heap.size := by
    have : (grow W1.drew os).heap.size = W1.heap.size + os.size := by simp [grow]
    omega
  exact ⟨⟨os ++ #[o], by rw [alloc_eq_grow, grow_grow]⟩, (World.cell?_alloc_lt _ o ⟨b, 0, none⟩ (by simp only; omega)).trans h0, (World.cell?_alloc_lt _ o ⟨b, 1, none⟩ (by simp only; omega)).trans h1, (World.cell?_alloc_lt _ o ⟨b + 1, 0, none⟩ (by simp only; omega)).trans h2, (World.cell?_alloc_lt _ o ⟨b + 1, 1, none⟩ (by simp only; omega)).trans h3⟩
set_option maxHeartbeats 4000000 in
theorem order_lays (x0 x1 y0 y1 : Int) (W : World) : Calls Tryz.prog 44 #[.agg #[.int .i64 x0, .int .i64 x1], .agg #[.int .i64 y0, .int .i64 y1]] W
    fun e w' => e = .returned (.int .i64 (ordP ⟨x0, x1⟩ ⟨y0, y1⟩)) ∧ ∃ q os', w' = grow (W.drewN q) os' := by
  have HC1 := hid (compare_any x0 y0)
  have HC2 := hid (compare_any x1 y1)
  unfold ordP
  simp only
  generalize cmpI x0 y0 = c1 at *
  generalize cmpI x1 y1 = c2 at *
  have hX := Blk.new (W.alloc (.cells #[.int .i64 x0, .int .i64 x1] 92)) 92 #[.int .i64 y0, .int .i64 y1]
  have hY := (Blk.new W 92 #[.int .i64 x0, .int .i64 x1]).alloc (.cells #[.int .i64 y0, .int .i64 y1] 92)
  obtain ⟨W1, hW1⟩ : ∃ W1 : World, W1 = (W.alloc (.cells #[.int .i64 x0, .int .i64 x1] 92)).alloc (.cells #[.int .i64 y0, .int .i64 y1] 92) := ⟨_, rfl⟩
  have HW1 := hid hW1
  rw [← hW1] at hX hY
  have i0 : W1.cell? ⟨W.heap.size, 0, none⟩ = some (.int .i64 x0) := hY.cell 0
  have i1 : W1.cell? ⟨W.heap.size, 1, none⟩ = some (.int .i64 x1) := hY.cell 1
  have i2 : W1.cell? ⟨W.heap.size + 1, 0, none⟩ = some (.int .i64 y0) := by have := hX.cell 0; rwa [World.size_alloc] at this
  have i3 : W1.cell? ⟨W.heap.size + 1, 1, none⟩ = some (.int .i64 y1) := by have := hX.cell 1; rwa [World.size_alloc] at this
  have hl1 : W1.heap.size = W.heap.size + 2 := by rw [hW1]; simp
  have Hl1 := hid hl1
  have HS0 := hid (show OrdS W1 W.heap.size x0 x1 y0 y1 W1.drew from ⟨⟨#[], by simp [grow]; rfl⟩, i0, i1, i2, i3⟩)
  clear hX hY i0 i1 i2 i3 hW1 hl1
  go_enter Tryz.func44, Tryz.ntmps44
  go_upto_region 1 with fail
  rw [← HW1.out]
  go_region_held3 (fun X => (∃ os, X = grow W1.drew os) ∧ X.cell? ⟨W.heap.size, 0, none⟩ = some (.int .i64 x0) ∧ X.cell? ⟨W.heap.size, 1, none⟩ = some (.int .i64 x1) ∧ X.cell? ⟨W.heap.size + 1, 0, none⟩ = some (.int .i64 y0) ∧ X.cell? ⟨W.heap.size + 1, 1, none⟩ = some (.int .i64 y1)) (first | exact HS0.out | assumption | (go_split_ands; exact OrdS.alloc _ Hl1.out (by assumption))) (first | (go_at_call 70; first | (with_reducible refine (HC1.out _).mono ?_; rintro e w' ⟨rfl, rfl⟩) | (with_reducible refine (HC2.out _).mono ?_; rintro e w' ⟨rfl, rfl⟩)) | (go_at_call 69; refine (or_any _ c1 c2 _ (by simp [go_sem]) (by simp [go_sem])).mono ?_; rintro e w' ⟨rfl, rfl⟩))
  all_goals
    go_wp2_with fail
    go_ret
    refine ⟨rfl, 1, #[.cells #[.int .i64 x0, .int .i64 x1] 92, .cells #[.int .i64 y0, .int .i64 y1] 92, .cells #[.int .i64 c1, .int .i64 c2] 3], ?_⟩
    rw [HW1.out, alloc_eq_grow, alloc_eq_grow, alloc_eq_grow, grow_grow, grow_grow]
    rfl
theorem order_any (x y : Pt) (W : World) : Calls Tryz.prog 44 #[x.val, y.val] W fun e w' => e = .returned (.int .i64 (ordP x y)) ∧ Below W.heap.size W w' := by
  refine (order_lays x.pos x.node y.pos y.node W).mono ?_
  rintro e w' ⟨rfl, q, os, rfl⟩
  exact ⟨rfl, (Below.manyDrew (Below.refl _ _) q).trans ((fr_grow (S := fun _ => False) (W.drewN q) os).gone (fun _ _ h => h))⟩
theorem ltOf_ordP : ltOf ordP = ltP := by
  funext x y
  unfold ltOf
  rw [Bool.eq_iff_iff, decide_eq_true_eq, ordP_neg]
set_option maxHeartbeats 1000000 in
theorem psort_any (base g off cap : Nat) (l : List Pt) (w : World) (hl : 0 < l.length) (hO : Ow Pt.cells 2 base 92 w (.slice (some ⟨g, off, none⟩) l.length cap) l) (hn : l.length ≤ 1000) :
    Calls Tryz.prog 43 #[.slice (some ⟨g, off, none⟩) l.length cap, .func (.func 44) #[] #[]] w
      fun e w' => e = .returned (.tuple #[]) ∧ Ow Pt.cells 2 base 92 w' (.slice (some ⟨g, off, none⟩) l.length cap) (sortP l) ∧ Fr (fun k => k = g) w w' := by
  have eg : ∀ args w, (callFunc 44 args).run Tryz.prog w = .ok (.enter 44 args) w := enters_of Tryz.func44 (by kernel_rfl) rfl
  obtain ⟨hH, hb⟩ := hO.holdsK Pt.cells_length (by decide) hl
  have hcon := AnyQ.slices_SortFunc_total Tryz.sortP 2 Tryz.isAgg92 Tryz.sizeOf92 Pt.cells (fun _ => rfl) (fun x => x.one) ordP (by rw [ltOf_ordP]; exact swo_ltP) 44 #[] g off cap l.toArray w eg (fun _ _ _ _ x y => order_lays x.pos x.node y.pos y.node _) hH hb (by simp; omega) (by rw [ltOf_ordP]; exact fun x y => ltP_tot)
  rw [show l.toArray.size = l.length by simp] at hcon
  refine hcon.mono ?_
  rintro e w' ⟨rfl, n, os, rfl⟩
  refine ⟨rfl, ?_, fr_sortWorldK _ _ _⟩
  rw [ltOf_ordP]
  have := hO.sorted Pt.cells_length (by decide) hl n (sortP l).toArray os (by simp [sortP_length])
  exact this
end Go.Proofs.YtemhdfodghfkfaaGreatDoor
namespace Go.Proofs.YtemhdfodghfkfaaGreatDoor
open Go.RowKit
open Go.ChangeShapes Go.WideShapes Go.ChangeAt

theorem Ow.room {α : Type} {cells : α → List Value} {n base : Nat} {T : TypeId} {w : World} {g off len cap : Nat} {l : List α} (h : Ow cells n base T w (.slice (some ⟨g, off, none⟩) len cap) l) (h0 : 0 < l.length) :
    len = l.length ∧ l.length ≤ cap ∧ cap ≤ maxLen ∧ base ≤ g ∧ g < w.heap.size := by
  obtain ⟨g', off', cap', he, h1, h2, h3, h4, _⟩ := h.get h0
  cases he
  exact ⟨rfl, h1, h2, h3, h4⟩
set_option maxHeartbeats 8000000 in
set_option maxRecDepth 100000 in
theorem compact_any (base g off cap : Nat) (l : List Pt) (w : World) (h0 : 0 < l.length) (hO : Ow Pt.cells 2 base 92 w (.slice (some ⟨g, off, none⟩) l.length cap) l) (hn : l.length ≤ 1000) :
    Calls Tryz.prog 45 #[.slice (some ⟨g, off, none⟩) l.length cap] w fun e w' =>
      ∃ k, e = .returned (.slice (some ⟨g, off, none⟩) k cap) ∧ Ow Pt.cells 2 base 92 w' (.slice (some ⟨g, off, none⟩) k cap) (compP l) ∧ Fr (fun j => j = g) w w' := by
  obtain ⟨-, hlc, hcm, -, hgl⟩ := hO.room h0
  unfold maxLen at hcm
  have HO := hid hO
  clear hO
  by_cases h2 : l.length < 2
  · have h1 : l.length = 1 := by omega
    have hc1 : compP l = l := by
      have := compP_one h0
      rw [← h1, List.take_length] at this
      exact this
    have h2' : (l.length : Int) < 2 := by omega
    go_enter Tryz.func45, Tryz.ntmps45
    go_wp2_with fail
    go_ret
    exact ⟨l.length, rfl, by rw [hc1]; exact HO.out, Fr.refl _ _⟩
  have h2' : ¬ (l.length : Int) < 2 := by omega
  have hC1 := hid (compP_one h0)
  go_enter Tryz.func45, Tryz.ntmps45
  go_wp2_with fail
  go_loopw [3] (fun i wr => ∃ k : Nat, 1 ≤ k ∧ k ≤ l.length ∧ i = .int .i64 k ∧ compP (l.take k) = l.take k ∧ Below w.heap.size w wr) (fun i _ => l.length - (intOf i).toNat)
  case atStart => exact ⟨1, Nat.le_refl _, by omega, rfl, hC1.out, Below.refl _ _⟩
  case round =>
    obtain ⟨k, hk1, hk, rfl, hc, hbr⟩ := hrel
    obtain ⟨wk, rfl⟩ : ∃ wk : World, wk = wr := ⟨_, rfl⟩
    have hOk := HO.out.belowS hbr
    have Hbr := hid hbr
    have Hc := hid hc
    have hzk := hbr.size
    by_cases hlt : k < l.length
    · obtain ⟨c0, c1⟩ := hOk.ptAt hlt
      obtain ⟨d0, d1⟩ := hOk.ptAt (show k - 1 < l.length by omega)
      have hsucc := compP_take_succ (l := l) (k := k - 1) (by omega)
      rw [show k - 1 + 2 = k + 1 by omega, show k - 1 + 1 = k by omega, hc] at hsucc
      have htk := take_snocD Pt.zero hlt
      have hgk : g < wk.heap.size := by omega
      have heqi := eqbPt_iff (l.getD k Pt.zero) (l.getD (k - 1) Pt.zero)
      obtain ⟨x, hx⟩ : ∃ x, l.getD k Pt.zero = x := ⟨_, rfl⟩
      obtain ⟨y, hy⟩ : ∃ y, l.getD (k - 1) Pt.zero = y := ⟨_, rfl⟩
      rw [hx] at c0 c1 hsucc htk heqi
      rw [hy] at d0 d1 hsucc heqi
      obtain ⟨x0, x1⟩ := x
      obtain ⟨y0, y1⟩ := y
      simp only at c0 c1 d0 d1
      have hk0 : 0 < k := by omega
      have hkl : (k : Int) < (l.length : Int) := by omega
      have heq := fun W => eqRunPt x0 x1 y0 y1 W
      have HOk := hid hOk
      have Hx := hid hx
      have Hy := hid hy
      clear hc hbr hOk hx hy
      rcases hb : eqbPt ⟨x0, x1⟩ ⟨y0, y1⟩ with _ | _
      · have hne : ¬ (⟨y0, y1⟩ : Pt) = ⟨x0, x1⟩ := fun e => by
          rw [e, eqbPt_refl] at hb
          cases hb
        rw [if_neg hne, ← htk] at hsucc
        have Hs := hid hsucc
        rw [hb] at heq
        clear hsucc htk heqi hb hne
        go_wp2_with fail
        go_quiet (fail)
        go_wp2_with fail
        go_roundw
        case rel => exact ⟨k + 1, by omega, by omega, by go_num, Hs.out, Below.manyDrew Hbr.out _⟩
        case measure => simp [intOf]; omega
      · have hxy : (⟨x0, x1⟩ : Pt) = ⟨y0, y1⟩ := heqi.1 hb
        rw [if_pos hxy.symm] at hsucc
        have Hs := hid hsucc
        rw [hb] at heq
        clear hsucc htk heqi hb hxy
        go_wp2_with fail
        go_quiet (fail)
        have hck : ¬ cap = k := by omega
        have hkc : k ≤ cap := by omega
        have hlc' : (l.length : Int) ≤ (cap : Int) := by omega
        have hkl' : (k : Int) ≤ (l.length : Int) := by omega
        clear c0 c1 d0 d1 heq
        go_wp2_with fail
        go_loopw [3, 5] (fun i j wr => ∃ (m k2 : Nat) (L : List Pt), i = .int .i64 m ∧ j = .int .i64 k2 ∧ 1 ≤ k2 ∧ k + k2 ≤ l.length ∧ m < k + k2 ∧ L.length = l.length ∧ compP (l.take (k + k2)) = L.take m ∧ (∀ q, k + k2 ≤ q + 1 → L.getD q Pt.zero = l.getD q Pt.zero) ∧
          Ow Pt.cells 2 base 92 wr (.slice (some ⟨g, off, none⟩) l.length cap) L ∧ Fr (fun j => j = g) w wr) (fun _ j _ => l.length - (intOf j).toNat)
        case atStart => exact ⟨k, 1, l, rfl, rfl, Nat.le_refl _, by omega, by omega, rfl, Hs.out, fun _ _ => rfl, HOk.out.drewN _, (Fr.ofB Hbr.out).drewN _⟩
        case round =>
          obtain ⟨m, k2, L, rfl, rfl, hk2, hkk, hm, hLl, hcm2, hsame, hOw, hF⟩ := hrel
          obtain ⟨wj, rfl⟩ : ∃ wj : World, wj = wr := ⟨_, rfl⟩
          have HF := hid hF
          have hgj : g < wj.heap.size := by have := hF.size; omega
          have Hcm := hid hcm2
          have Hsame := hid hsame
          have HLl := hid hLl
          clear hF hcm2 hsame
          by_cases hlt2 : k + k2 < l.length
          · obtain ⟨c0, c1⟩ := hOw.ptAt (show k + k2 < L.length by omega)
            obtain ⟨d0, d1⟩ := hOw.ptAt (show k + k2 - 1 < L.length by omega)
            obtain ⟨e0, e1⟩ := hOw.ptAt (show m < L.length by omega)
            obtain ⟨cur, hB, hcur⟩ := hOw.blk (by omega)
            have f0 := hB.frozen (off + m * 2)
            have f1 := hB.frozen (off + m * 2 + 1)
            rw [Hsame.out _ (by omega)] at c0 c1 d0 d1
            rw [show off + (k + k2) * 2 = off + k * 2 + k2 * 2 by omega] at c0 c1
            rw [show off + (k + k2 - 1) * 2 = off + k * 2 + (k2 - 1) * 2 by omega] at d0 d1
            have hsucc := compP_take_succ (l := l) (k := k + k2 - 1) (by omega)
            rw [show k + k2 - 1 + 2 = k + (k2 + 1) by omega, show k + k2 - 1 + 1 = k + k2 by omega, Hcm.out] at hsucc
            have HSet := hid (fun n x => (hOw.drewN n).set Pt.cells_length (i := m) (by omega) x)
            have HOw := hid hOw
            generalize L.getD m Pt.zero = z at *
            obtain ⟨z0, z1⟩ := z
            obtain ⟨u, hu⟩ : ∃ u, l.getD (k + k2) Pt.zero = u := ⟨_, rfl⟩
            obtain ⟨v, hv⟩ : ∃ v, l.getD (k + k2 - 1) Pt.zero = v := ⟨_, rfl⟩
            rw [hu] at c0 c1 hsucc
            rw [hv] at d0 d1 hsucc
            have Hu := hid hu
            obtain ⟨u0, u1⟩ := u
            obtain ⟨v0, v1⟩ := v
            simp only at c0 c1 d0 d1 e0 e1
            have heqi := eqbPt_iff ⟨u0, u1⟩ ⟨v0, v1⟩
            have heq := fun W => eqRunPt u0 u1 v0 v1 W
            have hk20 : 0 < k2 := by omega
            have hk2l : (k2 : Int) < ((l.length - k : Nat) : Int) := by omega
            have hml : (m : Int) < (l.length : Int) := by omega
            clear hOw hB hu hv hLl hcur
            rcases hb : eqbPt ⟨u0, u1⟩ ⟨v0, v1⟩ with _ | _
            · have hne : ¬ (⟨v0, v1⟩ : Pt) = ⟨u0, u1⟩ := fun e => by
                rw [e, eqbPt_refl] at hb
                cases hb
              rw [if_neg hne] at hsucc
              have Hs2 := hid (show compP (l.take (k + (k2 + 1))) = (L.set m ⟨u0, u1⟩).take (m + 1) from by
                rw [hsucc, take_snocD Pt.zero (by rw [List.length_set, HLl.out]; omega), List.take_set, List.set_eq_of_length_le (by rw [List.length_take]; omega), List.getD_eq_getElem?_getD, List.getElem?_set_self (by rw [HLl.out]; omega)]
                rfl)
              have Hsm2 := hid (show ∀ q, k + (k2 + 1) ≤ q + 1 → (L.set m ⟨u0, u1⟩).getD q Pt.zero = l.getD q Pt.zero from fun q hq => by
                rw [← Hsame.out q (by omega), List.getD_eq_getElem?_getD, List.getElem?_set_ne (by omega), List.getD_eq_getElem?_getD])
              rw [hb] at heq
              clear hsucc heqi hb hne
              go_wp2_with fail
              go_quiet (fail)
              go_wp2_with fail
              go_roundw
              case rel => exact ⟨m + 1, k2 + 1, L.set m ⟨u0, u1⟩, by go_num, by go_num, by omega, by omega, by omega, by rw [List.length_set]; exact HLl.out, Hs2.out, Hsm2.out, HSet.out _ ⟨u0, u1⟩, Fr.setCells g [.int .i64 u0, .int .i64 u1] (off + m * 2) _ (HF.out.drewN _) (.inl rfl)⟩
              case measure => simp [intOf]; omega
            · have hxy : (⟨u0, u1⟩ : Pt) = ⟨v0, v1⟩ := heqi.1 hb
              rw [if_pos hxy.symm] at hsucc
              have Hs2 := hid (show compP (l.take (k + (k2 + 1))) = L.take m from hsucc)
              rw [hb] at heq
              clear hsucc heqi hb hxy
              go_wp2_with fail
              go_quiet (fail)
              go_wp2_with fail
              go_roundw
              case rel => exact ⟨m, k2 + 1, L, rfl, by go_num, by omega, by omega, by omega, HLl.out, Hs2.out, fun q hq => Hsame.out q (by omega), HOw.out.drewN _, HF.out.drewN _⟩
              case measure => simp [intOf]; omega
          · have hend : k + k2 = l.length := by omega
            rw [hend, List.take_length] at Hcm
            obtain ⟨cur, hB, hcur⟩ := hOw.blk (by omega)
            obtain ⟨zs, hzs⟩ : ∃ zs, (Builtin.zeroCells Pt.zero.val.cells (l.length - m)).toList = zs := ⟨_, rfl⟩
            have hzl : zs.length = (l.length - m) * 2 := by rw [← hzs, Array.length_toList, size_zeroCells]; rfl
            have hz1 : ∀ u ∈ zs, u.oneCell' = true := by
              rw [← hzs]
              exact zeros_one (z := Pt.zero.val.cells) (by intro k hk; match k, hk with | 0, _ | 1, _ => rfl) (l.length - m)
            have Hzs := hid hzs
            have Hzl := hid hzl
            have Hz1 := hid hz1
            have HB := hid hB
            have Hcur := hid (show off + m * 2 + (l.length - m) * 2 ≤ cur.size by omega)
            have HOw := hid hOw
            have hk2n : ¬ (k2 : Int) < ((l.length - k : Nat) : Int) := by omega
            have hmL : (m : Int) ≤ (l.length : Int) := by omega
            have hmc : m ≤ cap := by omega
            have hcm' : ¬ cap = m := by omega
            clear hzs hzl hz1 hB hcur hOw hLl
            go_wp2_with ((with_reducible refine wpList_clear _ g (off + m * 2) (l.length - m) (cap - m) 2 16 cur 92 64 Pt.zero.val zs Hzs.out HB.out Hcur.out Tryz.underlying64 infoPt rfl Hz1.out rfl _ rfl rfl ?_))
            go_wp2_with fail
            go_ret
            refine ⟨m, rfl, ?_, Fr.setCells g _ _ _ HF.out (.inl rfl)⟩
            rw [Hcm.out]
            have htl : (L.take m).length = m := by rw [List.length_take, HLl.out]; omega
            exact (HOw.out.take (k := m) (by rw [HLl.out]; omega)).far (by rw [htl]; exact Nat.le_refl _) (by rw [Hzl.out]; omega)
    · obtain rfl : k = l.length := by omega
      rw [List.take_length] at Hc
      clear hc hbr hOk
      go_wp2_with fail
      go_ret
      exact ⟨l.length, rfl, by rw [Hc.out]; exact HO.out.belowS Hbr.out, Fr.ofB Hbr.out⟩
end Go.Proofs.YtemhdfodghfkfaaGreatDoor
namespace Go.Proofs.YtemhdfodghfkfaaGreatDoor
open Go.RowKit
open Go.ChangeShapes Go.WideShapes Go.ChangeAt

theorem IntsAt.preR {w : World} {s : SlV Int} (h : IntsAt w s) (j : Nat) (hj : j ≤ s.xs.length) : IntsAt w ⟨s.A, s.c, s.xs.take j⟩ := ⟨fun h0 => by
    have hl : (s.xs.take j).length = j := by rw [List.length_take]; omega
    have h0' : 0 < (s.xs.take j).length := h0
    obtain ⟨b, off, h1, h2, h3⟩ := h.row (by omega)
    refine ⟨b, off, h1, h2, fun i hi => ?_⟩
    have hi' : i < (s.xs.take j).length := hi
    rw [h3 i (by omega)]
    show some (Value.int .i64 (s.xs.getD i 0)) = some (Value.int .i64 ((s.xs.take j).getD i 0))
    rw [List.getD_eq_getElem?_getD, List.getD_eq_getElem?_getD, List.getElem?_take_of_lt (by omega)], by
    have := h.len
    have h1 : (s.xs.take j).length ≤ s.xs.length := by rw [List.length_take]; omega
    exact Nat.le_trans h1 this⟩
/-- What is wrong with nodes, those ahead of them known. -/
def rnodesF : List Int → List Int → Int
  | _, [] => 0
  | p, n :: r => if nodeB n = true then (if inL n p = true then 7 else rnodesF (p ++ [n]) r) else 1
def rnodesE (l : List Int) : Int := if l.length = 0 then 5 else if 6 < l.length then 4 else rnodesF [] l
theorem rnodesF_ok : ∀ {l p : List Int}, rnodesF p l = 0 → ∀ n ∈ l, nodeB n = true
  | [], _, _ => fun n hn => by cases hn
  | m :: r, p, h => fun n hn => by
    rw [rnodesF] at h
    split at h
    · rename_i hm
      split at h
      · cases h
      · rcases List.mem_cons.1 hn with rfl | hn
        · exact hm
        · exact rnodesF_ok h n hn
    · cases h
theorem rnodesE_ok {l : List Int} (h : rnodesE l = 0) : 0 < l.length ∧ l.length ≤ 6 ∧ ∀ n ∈ l, nodeB n = true := by
  unfold rnodesE at h
  split at h
  · cases h
  · split at h
    · cases h
    · exact ⟨by omega, by omega, rnodesF_ok h⟩
set_option maxHeartbeats 4000000 in
theorem rnodes_any (s : SlV Int) (w : World) (hs : IntsAt w s) (hok : s.ok) :
    Calls Tryz.prog 41 #[.slice s.A s.xs.length s.c] w fun e w' => e = .returned (errV (rnodesE s.xs)) ∧ w = w' := by
  have hkl := hs.len
  obtain ⟨hkc, hkm⟩ := hok
  unfold maxLen at hkl hkm
  by_cases h0 : s.xs.length = 0
  · rw [rnodesE, if_pos h0, errV_ne (show (5 : Int) ≠ 0 by decide)]
    rw [h0]
    go_enter Tryz.func41, Tryz.ntmps41
    go_wp2_with fail
    go_ret
    exact ⟨rfl, rfl⟩
  have hb0 : ((s.xs.length : Int) == 0) = false := by rw [beq_eq_false_iff_ne]; omega
  by_cases h6 : 6 < s.xs.length
  · rw [rnodesE, if_neg h0, if_pos h6, errV_ne (show (4 : Int) ≠ 0 by decide)]
    have h6' : (6 : Int) < (s.xs.length : Int) := by omega
    clear h0
    go_enter Tryz.func41, Tryz.ntmps41
    go_wp2_with fail
    go_ret
    exact ⟨rfl, rfl⟩
  have h6' : ¬ (6 : Int) < (s.xs.length : Int) := by omega
  rw [rnodesE, if_neg h0, if_neg h6]
  generalize hR : rnodesF [] s.xs = R
  have HR := hid hR
  have HK := hid hs
  clear hs hR h0 h6
  go_enter Tryz.func41, Tryz.ntmps41
  go_wp2_with fail
  go_loop [17] (fun i => ∃ j : Nat, j ≤ s.xs.length ∧ i = .int .i64 j ∧ rnodesF (s.xs.take j) (s.xs.drop j) = R) (fun i => s.xs.length - (intOf i).toNat)
  case atStart => exact ⟨0, Nat.zero_le _, rfl, HR.out⟩
  case round =>
    obtain ⟨j, hj, rfl, hkr⟩ := hrel
    by_cases hlt : j < s.xs.length
    · obtain ⟨b, off, hA, hb, hcs⟩ := HK.out.row (by omega)
      have hcell := hcs j hlt
      have htk := take_snocD 0 hlt
      have hd := drop_consD 0 hlt
      have hpre := HK.out.preR j hj
      have hlp : (s.xs.take j).length = j := by rw [List.length_take]; omega
      have HCo := hid (contains_any ⟨s.A, s.c, s.xs.take j⟩ (s.xs.getD j 0) _ hpre)
      simp only at HCo
      rw [hlp] at HCo
      rw [hd, rnodesF] at hkr
      rw [hA] at HCo
      generalize s.xs.getD j 0 = k at *
      rw [hA]
      have Hkr := hid hkr
      have Htk := hid htk
      have hjl : (j : Int) < (s.xs.length : Int) := by omega
      have hjc : (j : Int) ≤ (s.c : Int) := by omega
      clear hA hcs hpre hd hlp hkr htk
      rcases hk : nodeB k with _ | _
      · have HKr := hid (show (1 : Int) = R by rw [← Hkr.out, if_neg (by rw [hk]; decide)])
        have Hk := hid hk
        clear hk
        go_wp2_with ((go_at_call 63; refine (rnode_any _ _).mono ?_; rintro e w' ⟨rfl, rfl⟩); rw [Hk.out])
        go_ret
        exact ⟨by rw [← HKr.out]; rfl, rfl⟩
      · have Hk := hid hk
        rcases hin : inL k (s.xs.take j) with _ | _
        · rw [hin] at HCo
          have HKr := hid (show rnodesF (s.xs.take (j + 1)) (s.xs.drop (j + 1)) = R by rw [Htk.out, ← Hkr.out, if_pos hk, if_neg (by rw [hin]; decide)])
          clear hk hin
          go_wp2_with (first | ((go_at_call 63; refine (rnode_any _ _).mono ?_; rintro e w' ⟨rfl, rfl⟩); rw [Hk.out]) | (go_at_call 64; refine HCo.out.mono ?_; rintro e w' ⟨rfl, rfl⟩))
          go_round
          case rel => exact ⟨j + 1, by omega, by go_num, HKr.out⟩
          case measure => simp [intOf]; omega
        · rw [hin] at HCo
          have HKr := hid (show (7 : Int) = R by rw [← Hkr.out, if_pos hk, if_pos hin])
          clear hk hin
          go_wp2_with (first | ((go_at_call 63; refine (rnode_any _ _).mono ?_; rintro e w' ⟨rfl, rfl⟩); rw [Hk.out]) | (go_at_call 64; refine HCo.out.mono ?_; rintro e w' ⟨rfl, rfl⟩))
          go_ret
          exact ⟨by rw [← HKr.out]; rfl, rfl⟩
    · obtain rfl : j = s.xs.length := by omega
      have HKr := hid (show (0 : Int) = R by rw [← hkr, List.drop_length]; rfl)
      clear hkr
      go_wp2_with fail
      go_ret
      exact ⟨by rw [← HKr.out]; rfl, rfl⟩

def hashP (n i : Int) : Nat := hashL (pairT n i) % 256
def ptsOf (n : Int) (each : Nat) : List Pt := (List.range each).map fun (i : Nat) => ⟨(hashP n i : Int), n⟩
theorem ptsOf_succ (n : Int) (k : Nat) : ptsOf n (k + 1) = ptsOf n k ++ [⟨(hashP n k : Int), n⟩] := by simp [ptsOf, List.range_succ]
theorem ptsOf_length (n : Int) (k : Nat) : (ptsOf n k).length = k := by simp [ptsOf]
def ptsRaw (l : List Int) (each : Nat) : List Pt := l.flatMap fun n => ptsOf n each
theorem ptsRaw_snoc (l : List Int) (n : Int) (each : Nat) : ptsRaw (l ++ [n]) each = ptsRaw l each ++ ptsOf n each := by simp [ptsRaw]
theorem ptsRaw_length (l : List Int) (each : Nat) : (ptsRaw l each).length = l.length * each := by
  induction l with
  | nil => simp [ptsRaw]
  | cons n r ih =>
    show ((n :: r).flatMap fun n => ptsOf n each).length = _
    rw [List.flatMap_cons, List.length_append, ptsOf_length, List.length_cons, Nat.succ_mul]
    have : (r.flatMap fun n => ptsOf n each).length = r.length * each := ih
    omega
/-- the points -/
def ptsC (l : List Int) (each : Nat) : List Pt := compP (sortP (ptsRaw l each))
def ptsE (l : List Int) (each : Int) : Int := if rnodesE l = 0 then (if each < 1 ∨ 8 < each then 1 else 0) else rnodesE l
def RPts (w : World) (l : List Int) (each : Int) (e : Ending) (w' : World) : Prop :=
  ∃ v, e = .returned (.tuple #[v, errV (ptsE l each)]) ∧ Ow Pt.cells 2 w.heap.size 92 w' v (if ptsE l each = 0 then ptsC l each.toNat else []) ∧ Below w.heap.size w w'
set_option maxHeartbeats 4000000 in
theorem rpoints_any (s : SlV Int) (each : Int) (w : World) (hs : IntsAt w s) (hok : s.ok) (htb : Tb w) :
    Calls Tryz.prog 24 #[.slice s.A s.xs.length s.c, .int .i64 each] w (RPts w s.xs each) := by
  have HNd := hid (rnodes_any s w hs hok)
  have hkl := hs.len
  unfold maxLen at hkl
  unfold RPts
  by_cases h0 : rnodesE s.xs = 0
  case neg =>
    rw [ptsE, if_neg h0, if_neg h0]
    rw [errV_ne h0] at HNd
    have Hen := hid (errV_ne h0)
    generalize rnodesE s.xs = en at *
    clear h0
    go_enter Tryz.func24, Tryz.ntmps24
    go_wp2_with fail
    refine HNd.out.mono ?_
    rintro e w1 ⟨rfl, rfl⟩
    go_wp2_with fail
    go_ret2
    exact ⟨.slice none 0 0, by rw [Hen.out]; rfl, Ow.nil _ _ _ _ _, Below.refl _ _⟩
  case pos =>
  rw [h0, errV_zero] at HNd
  rw [ptsE, if_pos h0]
  obtain ⟨hn0, hn6, hnb⟩ := rnodesE_ok h0
  have Hnb := hid hnb
  clear h0 hnb
  by_cases he : each < 1 ∨ 8 < each
  · rw [if_pos he, if_neg (by decide), errV_ne (show (1 : Int) ≠ 0 by decide)]
    rcases (show each < 1 ∨ (¬ each < 1 ∧ 8 < each) by omega) with h | ⟨h, h2⟩
    all_goals
      clear he
      go_enter Tryz.func24, Tryz.ntmps24
      go_wp2_with fail
      refine HNd.out.mono ?_
      rintro e w1 ⟨rfl, rfl⟩
      go_wp2_with fail
      go_ret2
      exact ⟨.slice none 0 0, rfl, Ow.nil _ _ _ _ _, Below.refl _ _⟩
  rw [if_neg he, if_pos rfl, errV_zero]
  obtain ⟨m, rfl⟩ := Int.eq_ofNat_of_zero_le (show 0 ≤ each by omega)
  rw [Int.toNat_natCast]
  have hm1 : ¬ (m : Int) < 1 := by omega
  have hm8 : ¬ (8 : Int) < (m : Int) := by omega
  have hm : m ≤ 8 := by omega
  have HK := hid (fun W (hW : Below w.heap.size w W) => hs.stays0 hW)
  have HTb := hid (fun W (hW : Below w.heap.size w W) => htb.belowS hW)
  clear hs htb hok he
  go_enter Tryz.func24, Tryz.ntmps24
  go_wp2_with fail
  refine HNd.out.mono ?_
  rintro e w1 ⟨rfl, rfl⟩
  go_wp2_with fail
  go_loopw [7, 25] (fun v i wr => ∃ j : Nat, j ≤ s.xs.length ∧ i = .int .i64 j ∧ Ow Pt.cells 2 w.heap.size 92 wr v (ptsRaw (s.xs.take j) m) ∧ Below w.heap.size w wr) (fun _ i _ => s.xs.length - (intOf i).toNat)
  case atStart => exact ⟨0, Nat.zero_le _, rfl, Ow.nil _ _ _ _ _, Below.refl _ _⟩
  case round =>
    obtain ⟨j, hj, rfl, hO, hbr⟩ := hrel
    obtain ⟨wj, rfl⟩ : ∃ wj : World, wj = wr := ⟨_, rfl⟩
    have HO := hid hO
    have Hbr := hid hbr
    have hzj := hbr.size
    clear hO
    by_cases hlt : j < s.xs.length
    · obtain ⟨b, off, hA, hb, hcs⟩ := (HK.out wj hbr).row (by omega)
      have hcell := hcs j hlt
      have htk := take_snocD 0 hlt
      have hnn := nodeB_true.1 (Hnb.out _ (getD_memD 0 hlt))
      generalize s.xs.getD j 0 = n at *
      have Htk := hid htk
      have hjl : (j : Int) < (s.xs.length : Int) := by omega
      rw [hA]
      clear hA hcs htk hbr
      go_wp2_with fail
      go_loopw [7, 30] (fun v i wr => ∃ k : Nat, k ≤ m ∧ i = .int .i64 k ∧ Ow Pt.cells 2 w.heap.size 92 wr v (ptsRaw (s.xs.take j) m ++ ptsOf n k) ∧ Below w.heap.size w wr) (fun _ i _ => m - (intOf i).toNat)
      case atStart => exact ⟨0, Nat.zero_le _, rfl, by simpa [ptsOf] using HO.out, Hbr.out⟩
      case round =>
        clear HO Hbr hcell
        obtain ⟨k, hk, rfl, hO, hbk⟩ := hrel
        obtain ⟨wk, rfl⟩ : ∃ wk : World, wk = wr := ⟨_, rfl⟩
        have HO := hid hO
        have Hbk := hid hbk
        have hzk := hbk.size
        clear hO
        by_cases hkm : k < m
        · have HP := hid (pair_any n k (by unfold I64; omega) (by unfold I64; omega) wk (HTb.out wk hbk))
          have hlen : (ptsRaw (s.xs.take j) m ++ ptsOf n k).length ≤ 100 := by
            rw [List.length_append, ptsRaw_length, ptsOf_length, List.length_take]
            have h1 : min j s.xs.length * m ≤ 6 * 8 := Nat.mul_le_mul (by omega) hm
            omega
          have hsucc := ptsOf_succ n k
          unfold hashP at hsucc
          generalize hashL (pairT n k) = h at *
          generalize hL : ptsRaw (s.xs.take j) m ++ ptsOf n k = L at *
          have HL := hid (show ptsRaw (s.xs.take j) m ++ ptsOf n (k + 1) = L ++ [⟨((h % 256 : Nat) : Int), n⟩] by rw [hsucc, ← List.append_assoc, hL])
          have hkm' : (k : Int) < (m : Int) := by omega
          clear hbk hL hsucc
          go_wp2_with fail
          refine HP.out.mono ?_
          rintro e w2 ⟨rfl, hb2⟩
          have HO2 := hid (HO.out.belowS hb2)
          have Hb2 := hid (Below.step Hbk.out hb2 hzk)
          have hz2 := hb2.size
          clear hb2 HP
          go_wp2_with (at_builtin; refine appPt _ w.heap.size _ L ((h % 256 : Nat) : Int) n HO2.out rfl _ _ rfl rfl rfl ?_ ?_ ?_ ?_)
          any_goals (first | (with_reducible rfl) | omega | exact World.size_alloc _ _ | (show _ ≤ _; rw [World.size_alloc]; omega))
          intro v8 w8 hO8 f8 o8
          have Hb8 := hid (Hb2.out.trans (f8.below0 (by omega) (fun i hi => HO2.out.ge _ hi)))
          have HO8 := hid hO8
          clear hO8 f8 o8
          go_wp2_with fail
          go_roundw
          case rel => exact ⟨k + 1, by omega, by go_num, by rw [HL.out]; exact HO8.out, Hb8.out⟩
          case measure => simp [intOf]; omega
        · obtain rfl : k = m := by omega
          clear hbk
          go_wp2_with fail
          go_roundw
          case rel => exact ⟨j + 1, by omega, by go_num, by rw [Htk.out, ptsRaw_snoc]; exact HO.out, Hbk.out⟩
          case measure => simp [intOf]; omega
    · obtain rfl : j = s.xs.length := by omega
      rw [List.take_length] at HO
      have hrl := ptsRaw_length s.xs m
      have hpos : 0 < (ptsRaw s.xs m).length := by rw [hrl]; exact Nat.mul_pos hn0 (by omega)
      have hle : (ptsRaw s.xs m).length ≤ 48 := by rw [hrl]; exact Nat.mul_le_mul hn6 hm
      obtain ⟨g, off, cap, rfl, -, -, hbg, -, -, -, -⟩ := HO.out.get hpos
      have hsl := sortP_length (ptsRaw s.xs m)
      have HS := hid (fun W (hO : Ow Pt.cells 2 w.heap.size 92 W (.slice (some ⟨g, off, none⟩) (ptsRaw s.xs m).length cap) (ptsRaw s.xs m)) => psort_any w.heap.size g off cap (ptsRaw s.xs m) W hpos hO (by omega))
      have HC := hid (fun W (hO : Ow Pt.cells 2 w.heap.size 92 W (.slice (some ⟨g, off, none⟩) (sortP (ptsRaw s.xs m)).length cap) (sortP (ptsRaw s.xs m))) => compact_any w.heap.size g off cap (sortP (ptsRaw s.xs m)) W (by omega) hO (by omega))
      rw [hsl] at HC
      have HS1 := hid (HS.out _ HO.out)
      clear HS hbr hrl hpos hle hsl
      go_wp2_with fail
      refine HS1.out.mono ?_
      rintro e w2 ⟨rfl, hO2, hF2⟩
      have HC2 := hid (HC.out w2 hO2)
      have Hb2 := hid (Hbr.out.trans (hF2.below0 hzj (fun i hi => by rw [hi]; exact hbg)))
      have hz2 := hF2.size
      clear hO2 hF2 HC HS1
      go_wp2_with fail
      refine HC2.out.mono ?_
      rintro e w3 ⟨k, rfl, hO3, hF3⟩
      have Hb3 := hid (Hb2.out.trans (hF3.below0 (by omega) (fun i hi => by rw [hi]; exact hbg)))
      have HO3 := hid hO3
      clear hO3 hF3 HC2
      go_wp2_with fail
      go_ret2
      exact ⟨_, rfl, HO3.out, Hb3.out⟩
end Go.Proofs.YtemhdfodghfkfaaGreatDoor
namespace Go.Proofs.YtemhdfodghfkfaaGreatDoor
open Go.RowKit
open Go.ChangeShapes Go.WideShapes Go.ChangeAt

/-- a point in its bounds -/
def boundP (x : Pt) : Bool := decide (0 ≤ x.pos) && decide (x.pos ≤ 255) && nodeB x.node
/-- points right from here on, the one ahead of them known -/
def rightF : Option Pt → List Pt → Bool
  | _, [] => true
  | p, x :: r => boundP x && (match p with | some y => ltP y x | none => true) && rightF (some x) r
theorem rightF_cons (p : Option Pt) (x : Pt) (r : List Pt) : rightF p (x :: r) = (boundP x && (match p with | some y => ltP y x | none => true) && rightF (some x) r) := rfl
def rightP (l : List Pt) : Bool := rightF none l && decide (0 < l.length) && decide (l.length ≤ 48)
def rgE (l : List Pt) (key : Int) : Int := if rightP l = true then (if keyB key = true then 0 else 1) else 3
theorem keyR_any (k : Int) (w : World) : Calls Tryz.prog 134 #[.int .i64 k] w fun e w' => e = .returned (.bool (keyB k)) ∧ w = w' := by
  rcases (show k < 0 ∨ (0 ≤ k ∧ 8 ≤ k) ∨ (0 ≤ k ∧ k < 8) by omega) with h | ⟨h, h2⟩ | ⟨h, h2⟩
  all_goals
    go_enter Tryz.func134, Tryz.ntmps134
    go_wp2
    go_ret
    refine ⟨ret_b ?_, rfl⟩
    symm
    rw [Bool.eq_iff_iff, keyB_true]
    simp
    try omega
theorem bstepR {a W W' : World} (h : Below a.heap.size a W) (k : Below W.heap.size W W') : Below a.heap.size a W' := h.trans (k.mono h.size)
theorem rkeep2 {w0 W : World} {p1 p2 : Addr} {v1 v2 : Value} (l1 : p1.block < w0.heap.size) (l2 : p2.block < w0.heap.size) (c1 : w0.cell? p1 = some v1) (c2 : w0.cell? p2 = some v2) (h : Below w0.heap.size w0 W) : Below w0.heap.size w0 W ∧ W.cell? p1 = some v1 ∧ W.cell? p2 = some v2 :=
  ⟨h, (h.cell l1).trans c1, (h.cell l2).trans c2⟩
theorem rkeep4 {w0 W : World} {p1 p2 p3 p4 : Addr} {v1 v2 v3 v4 : Value} (l1 : p1.block < w0.heap.size) (l2 : p2.block < w0.heap.size) (l3 : p3.block < w0.heap.size) (l4 : p4.block < w0.heap.size) (c1 : w0.cell? p1 = some v1) (c2 : w0.cell? p2 = some v2) (c3 : w0.cell? p3 = some v3) (c4 : w0.cell? p4 = some v4) (h : Below w0.heap.size w0 W) : Below w0.heap.size w0 W ∧ W.cell? p1 = some v1 ∧ W.cell? p2 = some v2 ∧ W.cell? p3 = some v3 ∧ W.cell? p4 = some v4 :=
  ⟨h, (h.cell l1).trans c1, (h.cell l2).trans c2, (h.cell l3).trans c3, (h.cell l4).trans c4⟩
set_option maxHeartbeats 8000000 in
set_option maxRecDepth 100000 in
theorem right_any (s : SlV Pt) (w : World) (hs : PtsAt w s) :
    Calls Tryz.prog 142 #[.slice s.A s.xs.length s.c] w fun e w' => e = .returned (.bool (rightP s.xs)) ∧ Below w.heap.size w w' := by
  have hlen := hs.len
  unfold maxLen at hlen
  have HS := hid (fun W (hW : Below w.heap.size w W) => hs.stays hW)
  clear hs
  generalize hR : rightF none s.xs = R
  have HR := hid hR
  have HFin := hid (show ∀ b, R = b → rightP s.xs = (b && decide (0 < s.xs.length) && decide (s.xs.length ≤ 48)) from fun b hb => by rw [rightP, hR, hb])
  clear hR
  go_enter Tryz.func142, Tryz.ntmps142
  go_wp2_with fail
  go_loopw [7] (fun i wr => ∃ j : Nat, j ≤ s.xs.length ∧ i = .int .i64 j ∧ rightF (if j = 0 then none else some (s.xs.getD (j - 1) Pt.zero)) (s.xs.drop j) = R ∧ Below w.heap.size w wr) (fun i _ => s.xs.length - (intOf i).toNat)
  case atStart => exact ⟨0, Nat.zero_le _, rfl, HR.out, Below.refl _ _⟩
  case round =>
    obtain ⟨j, hj, rfl, hkr, hbr⟩ := hrel
    obtain ⟨wj, rfl⟩ : ∃ wj : World, wj = wr := ⟨_, rfl⟩
    have Hbr := hid hbr
    have hzj := hbr.size
    by_cases hlt : j < s.xs.length
    · obtain ⟨b, off, hA, hb, hcells⟩ := (HS.out wj hbr).row (by omega)
      obtain ⟨k0, k1⟩ := hcells j hlt
      have hprev := hid (fun (h0 : 0 < j) => hcells (j - 1) (by omega))
      rw [drop_consD Pt.zero hlt, rightF_cons] at hkr
      have hjl : (j : Int) < (s.xs.length : Int) := by omega
      have Hnext := hid (show (if j + 1 = 0 then none else some (s.xs.getD (j + 1 - 1) Pt.zero)) = some (s.xs.getD j Pt.zero) by rw [if_neg (by omega), Nat.add_sub_cancel])
      obtain ⟨x, hx⟩ : ∃ x, s.xs.getD j Pt.zero = x := ⟨_, rfl⟩
      rw [hx] at k0 k1 hkr Hnext
      obtain ⟨x0, x1⟩ := x
      simp only at k0 k1
      rw [hA]
      clear hA hcells hbr hx
      have hB1 := Blk.new wj 92 #[.int .i64 x0, .int .i64 x1]
      obtain ⟨w1, hw1⟩ : ∃ W : World, W = wj.alloc (.cells #[.int .i64 x0, .int .i64 x1] 92) := ⟨_, rfl⟩
      have hb1 : Below wj.heap.size wj w1 := by rw [hw1]; exact (Below.refl _ _).alloc (Nat.le_refl _) _
      rw [← hw1] at hB1
      have c0 : w1.cell? ⟨wj.heap.size, 0, none⟩ = some (.int .i64 x0) := hB1.cell 0
      have c1 : w1.cell? ⟨wj.heap.size, 1, none⟩ = some (.int .i64 x1) := hB1.cell 1
      have hl1 := hB1.lt
      have Hw1 := hid hw1
      have Hb1 := hid (Below.step Hbr.out hb1 hzj)
      have HN := hid (rnode_any x1)
      have Hk1 := hid (fun (h0 : 0 < j) => (hprev.out h0).stays hb1 hb)
      have hb1' := hb1.size
      have hbl1 : b < w1.heap.size := by omega
      clear hw1 hB1 hb1 hprev
      go_upto_region 4 with fail
      rw [← Hw1.out]
      clear k0 k1
      obtain ⟨pv, hpv⟩ : ∃ pv : Bool, (match (if j = 0 then none else some (s.xs.getD (j - 1) Pt.zero)) with | some y => ltP y ⟨x0, x1⟩ | none => true) = pv := ⟨_, rfl⟩
      rw [hpv] at hkr
      have Hpv := hid hpv
      have Hkr := hid hkr
      clear hpv hkr
      obtain ⟨BB, hBB⟩ : ∃ BB : Bool, (boundP ⟨x0, x1⟩ && pv) = BB := ⟨_, rfl⟩
      have HBB := hid hBB
      clear hBB
      go_cut [39] (fun v wx => v = .bool (!BB) ∧ Below w1.heap.size w1 wx)
      case first =>
        have hgr := hl1
        have j0 := c0
        have j1 := c1
        have HNq := hid (fun W => (HN.out W).mono fun e w' (h : e = .returned (.bool (nodeB x1)) ∧ W = w') => (⟨h.1, h.2.symm⟩ : e = .returned (.bool (nodeB x1)) ∧ w' = W))
        clear hgr j0 j1
        by_cases hx0 : x0 < 0
        · obtain rfl : BB = false := by rw [← HBB.out]; simp [boundP]; omega
          have g0 : decide (x0 < 0) = true := decide_eq_true hx0
          clear HN HNq Hk1 hx0
          go_quiet (fail)
          go_wp2_with fail
          go_meet
          exact ⟨rfl, Below.manyDrew (Below.refl _ _) _⟩
        have g0 : decide (x0 < 0) = false := decide_eq_false hx0
        by_cases hx1 : 255 < x0
        · obtain rfl : BB = false := by rw [← HBB.out]; simp [boundP]; omega
          have g1 : decide (255 < x0) = true := decide_eq_true hx1
          clear HN HNq Hk1 hx0 hx1
          go_quiet (fail)
          go_wp2_with fail
          go_meet
          exact ⟨rfl, Below.manyDrew (Below.refl _ _) _⟩
        have g1 : decide (255 < x0) = false := decide_eq_false hx1
        rcases hn : nodeB x1 with _ | _
        · obtain rfl : BB = false := by rw [← HBB.out]; simp [boundP, hn]
          rw [hn] at HNq
          clear Hk1 hn hx0 hx1 HN
          go_quiet ((go_at_call 63; exact Calls.quiet_of_same (HNq.out _)))
          go_wp2_with fail
          go_meet
          exact ⟨rfl, Below.manyDrew (Below.refl _ _) _⟩
        have hbd : boundP ⟨x0, x1⟩ = true := by simp [boundP, hn]; omega
        rw [hn] at HN HNq
        have hBp : BB = pv := by rw [← HBB.out, hbd, Bool.true_and]
        subst hBp
        clear hn hbd HBB hx0 hx1
        by_cases h0 : 0 < j
        · obtain ⟨d0, d1⟩ := Hk1.out h0
          have hpv := Hpv.out
          rw [if_neg (by omega)] at hpv
          simp only at hpv
          obtain ⟨y, hy⟩ : ∃ y, s.xs.getD (j - 1) Pt.zero = y := ⟨_, rfl⟩
          rw [hy] at d0 d1 hpv
          obtain ⟨y0, y1⟩ := y
          simp only at d0 d1
          have hOr := hid (fun W => order_any ⟨y0, y1⟩ ⟨x0, x1⟩ W)
          have hge := ordP_geq ⟨y0, y1⟩ ⟨x0, x1⟩
          rw [hpv] at hge
          generalize ordP ⟨y0, y1⟩ ⟨x0, x1⟩ = ov at *
          simp only [Pt.val] at hOr
          have g3 : decide ((0 : Int) < (j : Int)) = true := decide_eq_true (by omega)
          have hwr : IntKind.i64.wrap ((j : Int) - 1) = ((j - 1 : Nat) : Int) := (IntWalk.i64_in ((j : Int) - 1) (by omega)).trans (by omega)
          have hj1 : ((j - 1 : Nat) : Int) < (s.xs.length : Int) := by omega
          clear Hk1 hy hpv Hpv HNq
          rcases BB with _ | _
          · have g4 : decide ((0 : Int) ≤ ov) = true := decide_eq_true (hge.2 (by decide))
            clear hge
            refine wp_region_still_tail 24 (by kernel_rfl) (by kernel_rfl) ?_
            simp only [List.take_succ_cons, List.take_zero, List.drop_succ_cons, List.drop_zero]
            repeat still_step
            still_call ((HN.out _).mono fun e w' h => ⟨h.1, h.2.symm⟩)
            repeat still_step
            try refine wpStill_nil ?_
            change wpList _ _ _ _ _ w1.drew
            have hd : Below w1.heap.size w1 w1.drew := (Below.refl _ _).drew
            generalize w1.drew = w3 at *
            go_wp2_with fail
            refine (hOr.out _).mono ?_
            rintro e w8 ⟨rfl, hb8⟩
            have Hb8 := hid (bstepR hd hb8)
            clear hb8
            go_wp2_with fail
            go_meet
            exact ⟨rfl, Hb8.out⟩
          · have g4 : decide ((0 : Int) ≤ ov) = false := decide_eq_false (fun h => (hge.1 h) rfl)
            clear hge
            refine wp_region_still_tail 24 (by kernel_rfl) (by kernel_rfl) ?_
            simp only [List.take_succ_cons, List.take_zero, List.drop_succ_cons, List.drop_zero]
            repeat still_step
            still_call ((HN.out _).mono fun e w' h => ⟨h.1, h.2.symm⟩)
            repeat still_step
            try refine wpStill_nil ?_
            change wpList _ _ _ _ _ w1.drew
            have hd : Below w1.heap.size w1 w1.drew := (Below.refl _ _).drew
            generalize w1.drew = w3 at *
            go_wp2_with fail
            refine (hOr.out _).mono ?_
            rintro e w8 ⟨rfl, hb8⟩
            have Hb8 := hid (bstepR hd hb8)
            clear hb8
            go_wp2_with fail
            go_meet
            exact ⟨rfl, Hb8.out⟩
        · obtain rfl : j = 0 := by omega
          have hpv := Hpv.out
          rw [if_pos rfl] at hpv
          simp only at hpv
          subst hpv
          clear Hk1 Hpv HN
          go_quiet ((go_at_call 63; exact Calls.quiet_of_same (HNq.out _)))
          go_wp2_with fail
          go_meet
          exact ⟨rfl, Below.manyDrew (Below.refl _ _) _⟩
      case rest =>
      obtain ⟨rfl, hb2⟩ := hcut
      obtain ⟨w2, rfl⟩ : ∃ w2 : World, w2 = wc := ⟨_, rfl⟩
      have Hb2 := hid (Below.step Hb1.out hb2 Hb1.out.size)
      clear hb2 c0 c1 Hk1 HN
      rcases BB with _ | _
      · have HF := hid (HFin.out false (by rw [← Hkr.out, HBB.out]; rfl))
        go_wp2_with fail
        go_ret
        exact ⟨by rw [HF.out]; rfl, Hb2.out⟩
      · have Hk2 := hid (show rightF (if j + 1 = 0 then none else some (s.xs.getD (j + 1 - 1) Pt.zero)) (s.xs.drop (j + 1)) = R by rw [Hnext.out, ← Hkr.out, HBB.out]; rfl)
        go_wp2_with fail
        go_roundw
        case rel => exact ⟨j + 1, by omega, by go_num, Hk2.out, Hb2.out⟩
        case measure => simp [intOf]; omega
    · obtain rfl : j = s.xs.length := by omega
      rw [List.drop_length] at hkr
      have HF := hid (HFin.out true hkr.symm)
      clear hkr hbr
      have Hbr2 := hid Hbr.out
      by_cases h0 : 0 < s.xs.length
      · have h0' : (0 : Int) < (s.xs.length : Int) := by omega
        by_cases h48 : s.xs.length ≤ 48
        · have h48' : (s.xs.length : Int) ≤ 48 := by omega
          have HF2 := hid (show rightP s.xs = true by rw [HF.out, decide_eq_true h0, decide_eq_true h48]; rfl)
          clear h0 h48 HF
          go_wp2_with fail
          go_ret
          exact ⟨by rw [HF2.out]; rfl, Hbr2.out⟩
        · have h48' : ¬ (s.xs.length : Int) ≤ 48 := by omega
          have HF2 := hid (show rightP s.xs = false by rw [HF.out, decide_eq_false h48, Bool.and_false])
          clear h0 h48 HF
          go_wp2_with fail
          go_ret
          exact ⟨by rw [HF2.out]; rfl, Hbr2.out⟩
      · have h0' : ¬ (0 : Int) < (s.xs.length : Int) := by omega
        have HF2 := hid (show rightP s.xs = false by rw [HF.out, decide_eq_false h0, Bool.and_false, Bool.false_and])
        clear h0 HF
        go_wp2_with fail
        go_ret
        exact ⟨by rw [HF2.out]; rfl, Hbr2.out⟩
end Go.Proofs.YtemhdfodghfkfaaGreatDoor
namespace Go.Proofs.YtemhdfodghfkfaaGreatDoor
open Go.RowKit
open Go.ChangeShapes Go.WideShapes Go.ChangeAt

theorem rgcheck_any (s : SlV Pt) (key : Int) (w : World) (hs : PtsAt w s) :
    Calls Tryz.prog 116 #[.slice s.A s.xs.length s.c, .int .i64 key] w fun e w' => e = .returned (errV (rgE s.xs key)) ∧ Below w.heap.size w w' := by
  have HR := hid (right_any s w hs)
  have HK := hid (keyR_any key)
  clear hs
  rcases hr : rightP s.xs with _ | _
  · rw [hr] at HR
    rw [rgE, hr, if_neg (by decide), errV_ne (show (3 : Int) ≠ 0 by decide)]
    clear hr
    go_enter Tryz.func116, Tryz.ntmps116
    go_wp2_with fail
    refine HR.out.mono ?_
    rintro e w1 ⟨rfl, hb1⟩
    go_wp2_with fail
    go_ret
    exact ⟨rfl, hb1⟩
  · rw [hr] at HR
    rw [rgE, if_pos hr]
    clear hr
    rcases hk : keyB key with _ | _
    · rw [hk] at HK
      rw [if_neg (by decide), errV_ne (show (1 : Int) ≠ 0 by decide)]
      clear hk
      go_enter Tryz.func116, Tryz.ntmps116
      go_wp2_with fail
      refine HR.out.mono ?_
      rintro e w1 ⟨rfl, hb1⟩
      have Hb1 := hid hb1
      clear hb1
      go_wp2_with fail
      refine (HK.out _).mono ?_
      rintro e w2 ⟨rfl, rfl⟩
      go_wp2_with fail
      go_ret
      exact ⟨rfl, Hb1.out⟩
    · rw [hk] at HK
      rw [if_pos rfl, errV_zero]
      clear hk
      go_enter Tryz.func116, Tryz.ntmps116
      go_wp2_with fail
      refine HR.out.mono ?_
      rintro e w1 ⟨rfl, hb1⟩
      have Hb1 := hid hb1
      clear hb1
      go_wp2_with fail
      refine (HK.out _).mono ?_
      rintro e w2 ⟨rfl, rfl⟩
      go_wp2_with fail
      go_ret
      exact ⟨rfl, Hb1.out⟩
/-- the first at or behind a place -/
def idxP (v : Int) : List Pt → Nat → Int
  | [], _ => -1
  | x :: r, k => if v ≤ x.pos then (k : Int) else idxP v r (k + 1)
theorem idxP_cons (v : Int) (x : Pt) (r : List Pt) (k : Nat) : idxP v (x :: r) k = if v ≤ x.pos then (k : Int) else idxP v r (k + 1) := rfl
theorem idxP_in (v : Int) : ∀ (l : List Pt) (k : Nat), idxP v l k = -1 ∨ ((k : Int) ≤ idxP v l k ∧ idxP v l k < ((k + l.length : Nat) : Int))
  | [], k => .inl rfl
  | x :: r, k => by
    rw [idxP_cons, List.length_cons]
    split
    · right; omega
    · rcases idxP_in v r (k + 1) with h | h
      · exact .inl h
      · right; omega
theorem closure_any (bx : Nat) (v : Int) (x0 x1 : Int) (W : World) (hc : W.cell? ⟨bx, 0, none⟩ = some (.int .i64 v)) (hl : bx < W.heap.size) :
    Calls Tryz.prog 144 #[.agg #[.int .i64 x0, .int .i64 x1], .pointer (some ⟨bx, 0, none⟩)] W fun e w' => e = .returned (.bool (decide (v ≤ x0))) ∧ Below W.heap.size W w' := by
  by_cases h : v ≤ x0
  · rw [decide_eq_true h]
    go_enter Tryz.func144, Tryz.ntmps144
    go_wp2_with fail
    go_ret
    exact ⟨rfl, by (repeat (first | with_reducible exact Below.refl _ _ | with_reducible assumption | (with_reducible refine Below.drew ?_) | (with_reducible refine Below.manyDrew ?_ _) | ((with_reducible refine Below.alloc ?_ ?_ _); rotate_left; (focus (first | omega | (dsimp only; omega) | (simp; done) | (simp; omega)))) | ((with_reducible refine Below.setCell ?_ ?_ _); rotate_left; (focus (first | omega | (dsimp only; omega) | (simp; done) | (simp; omega)))) | ((with_reducible refine Below.step ?_ (by assumption) ?_); rotate_left; (focus (first | omega | (dsimp only; omega) | (simp; done) | (simp; omega))))))⟩
  · rw [decide_eq_false h]
    go_enter Tryz.func144, Tryz.ntmps144
    go_wp2_with fail
    go_ret
    exact ⟨rfl, by (repeat (first | with_reducible exact Below.refl _ _ | with_reducible assumption | (with_reducible refine Below.drew ?_) | (with_reducible refine Below.manyDrew ?_ _) | ((with_reducible refine Below.alloc ?_ ?_ _); rotate_left; (focus (first | omega | (dsimp only; omega) | (simp; done) | (simp; omega)))) | ((with_reducible refine Below.setCell ?_ ?_ _); rotate_left; (focus (first | omega | (dsimp only; omega) | (simp; done) | (simp; omega)))) | ((with_reducible refine Below.step ?_ (by assumption) ?_); rotate_left; (focus (first | omega | (dsimp only; omega) | (simp; done) | (simp; omega))))))⟩
set_option maxHeartbeats 2000000 in
theorem indexFunc_any (bx : Nat) (v : Int) (s : SlV Pt) (w : World) (hs : PtsAt w s) (hbx : w.cell? ⟨bx, 0, none⟩ = some (.int .i64 v)) (hl : bx < w.heap.size) :
    Calls Tryz.prog 143 #[.slice s.A s.xs.length s.c, .func (.func 144) #[] #[.pointer (some ⟨bx, 0, none⟩)]] w fun e w' => e = .returned (.int .i64 (idxP v s.xs 0)) ∧ Below w.heap.size w w' := by
  have hlen := hs.len
  unfold maxLen at hlen
  have HS := hid (fun W (hW : Below w.heap.size w W) => hs.stays hW)
  have HCl := hid (fun x0 x1 W (hW : Below w.heap.size w W) => closure_any bx v x0 x1 W ((hW.cell (p := ⟨bx, 0, none⟩) hl).trans hbx) (Nat.lt_of_lt_of_le hl hW.size))
  clear hs hbx
  generalize hR : idxP v s.xs 0 = R
  have HR := hid hR
  clear hR
  go_enter Tryz.func143, Tryz.ntmps143
  go_wp2_with fail
  go_loopw [8] (fun i wr => ∃ j : Nat, j ≤ s.xs.length ∧ i = .int .i64 j ∧ idxP v (s.xs.drop j) j = R ∧ Below w.heap.size w wr) (fun i _ => s.xs.length - (intOf i).toNat)
  case atStart => exact ⟨0, Nat.zero_le _, rfl, HR.out, Below.refl _ _⟩
  case round =>
    obtain ⟨j, hj, rfl, hkr, hbr⟩ := hrel
    obtain ⟨wj, rfl⟩ : ∃ wj : World, wj = wr := ⟨_, rfl⟩
    have Hbr := hid hbr
    by_cases hlt : j < s.xs.length
    · obtain ⟨b, off, hA, hb, hcells⟩ := (HS.out wj hbr).row (by omega)
      obtain ⟨k0, k1⟩ := hcells j hlt
      rw [drop_consD Pt.zero hlt, idxP_cons] at hkr
      generalize s.xs.getD j Pt.zero = x at *
      obtain ⟨x0, x1⟩ := x
      simp only at k0 k1 hkr
      have HC := hid (HCl.out x0 x1 wj hbr)
      have hjl : (j : Int) < (s.xs.length : Int) := by omega
      rw [hA]
      have Hkr := hid hkr
      clear hA hcells hkr hbr
      by_cases hv : v ≤ x0
      · rw [decide_eq_true hv] at HC
        have HF := hid (show (j : Int) = R by rw [← Hkr.out, if_pos hv])
        clear hv
        go_wp2_with fail
        refine HC.out.mono ?_
        rintro e w2 ⟨rfl, hb2⟩
        have Hb2 := hid (Below.step Hbr.out hb2 Hbr.out.size)
        clear hb2
        go_wp2_with fail
        go_ret
        exact ⟨by rw [← HF.out]; rfl, Hb2.out⟩
      · rw [decide_eq_false hv] at HC
        have HF := hid (show idxP v (s.xs.drop (j + 1)) (j + 1) = R by rw [← Hkr.out, if_neg hv])
        clear hv
        go_wp2_with fail
        refine HC.out.mono ?_
        rintro e w2 ⟨rfl, hb2⟩
        have Hb2 := hid (Below.step Hbr.out hb2 Hbr.out.size)
        clear hb2
        go_wp2_with fail
        go_roundw
        case rel => exact ⟨j + 1, by omega, by go_num, HF.out, Hb2.out⟩
        case measure => simp [intOf]; omega
    · obtain rfl : j = s.xs.length := by omega
      rw [List.drop_length] at hkr
      have HF := hid hkr
      clear hkr hbr
      go_wp2_with fail
      go_ret
      exact ⟨by rw [← HF.out]; rfl, Hbr.out⟩
/-- where a key's owners begin -/
def firstP (l : List Pt) (key : Int) : Nat := (idxP (hashP key key : Int) l 0).toNat
theorem firstP_lt {l : List Pt} (key : Int) (h : 0 < l.length) : firstP l key < l.length := by
  unfold firstP
  rcases idxP_in (hashP key key : Int) l 0 with h1 | h1 <;> omega
set_option maxHeartbeats 2000000 in
theorem first_any (s : SlV Pt) (key : Int) (w : World) (hs : PtsAt w s) (hk : keyB key = true) (htb : Tb w) :
    Calls Tryz.prog 117 #[.slice s.A s.xs.length s.c, .int .i64 key] w fun e w' => e = .returned (.int .i64 (firstP s.xs key : Nat)) ∧ Below w.heap.size w w' := by
  obtain ⟨k0, k8⟩ := keyB_true.1 hk
  have HP := hid (pair_any key key (by unfold I64; omega) (by unfold I64; omega) w htb)
  have HI := hid (fun bx v W (hW : Below w.heap.size w W) h1 h2 => indexFunc_any bx v s W (hs.stays hW) h1 h2)
  have hfi := idxP_in (hashP key key : Int) s.xs 0
  unfold firstP
  unfold hashP at hfi ⊢
  generalize hashL (pairT key key) = h at *
  clear hs hk htb
  generalize hR : idxP ((h % 256 : Nat) : Int) s.xs 0 = R at *
  have HR := hid hR
  clear hR
  go_enter Tryz.func117, Tryz.ntmps117
  go_wp2_with fail
  refine HP.out.mono ?_
  rintro e w1 ⟨rfl, hb1⟩
  have Hb1 := hid hb1
  have hz1 := hb1.size
  clear hb1 HP
  go_upto_region 2 with fail
  have hB := Blk.new w1 3 #[.int .i64 ((h % 256 : Nat) : Int)]
  have hI := HI.out w1.heap.size ((h % 256 : Nat) : Int) _ (Hb1.out.alloc hz1 _) (hB.cell 0) hB.lt
  rw [HR.out] at hI
  have HI2 := hid hI
  clear hI hB HI
  go_wp2_with fail
  refine HI2.out.mono ?_
  rintro e w2 ⟨rfl, hb2⟩
  have Hb2 := hid (Below.step (Hb1.out.alloc hz1 _) hb2 (by rw [World.size_alloc]; omega))
  clear hb2
  go_wp2_with fail
  go_ret
  exact ⟨congrArg (fun x => Ending.returned (Value.int .i64 x)) (show max 0 R = ((R.toNat : Nat) : Int) by omega), Hb2.out⟩
end Go.Proofs.YtemhdfodghfkfaaGreatDoor
