/-
  CONTRACT of slices.Insert at api.Entry, road by road: at the end; in between with no room (a new row); in between with room (in place). CONDITIONS: none.
  CONTRACT of slices.Clone at api.Entry. CONDITIONS: none.
  CONTRACT of cache.Added. CONDITIONS: none.
  AN ENTRY IN A BOX OF THE CALL's OWN, laid ahead of a call or behind it. CONDITIONS: none.
  TWO OR THREE CELLS kept over allocations and calls. CONDITIONS: none.
-/
import Derived.Test.YtemhdfodghfkfaaGreatDoorCCheck
import Derived.Test.YtemhdfodghfkfaaGreatDoorKitJ
import Derived.Lib.SliceRun
import Derived.Lib.Overlaps
import Derived.Laws.Externs
import Derived.Deep.RegionLaw
import Derived.Test.YtemhdfodghfkfaaGreatDoorKit
namespace Go.Proofs.YtemhdfodghfkfaaGreatDoor
open Go.RowKit
open Go.ChangeShapes Go.WideShapes Go.ChangeAt

/-- what Insert leaves -/
def EIns (base : Nat) (X : World) (v : Value) (l' : List E) (e : Ending) (w' : World) : Prop :=
  ∃ v', e = .returned v' ∧ Ow E.cells 5 base 59 w' v' l' ∧ (foot v' = foot v ∨ ∃ k, foot v' = some k ∧ X.heap.size ≤ k) ∧ Fr (fun k => some k = foot v) X w'

set_option maxHeartbeats 4000000 in
theorem Eins_end (base : Nat) (v : Value) (l : List E) (r : SlV E) (hr0 : 0 < r.xs.length) (hr1 : r.xs.length ≤ 1000) (X : World) (hr : EsAt X r) (hown : Ow E.cells 5 base 59 X v l) (hl : l.length ≤ 1000) (hb : base ≤ X.heap.size) :
    Calls Tryz.prog 172 #[v, .int .i64 l.length, .slice r.A r.xs.length r.c] X (EIns base X v (l ++ r.xs)) := by
  obtain ⟨A, c, rfl, hlc, hcm, hform⟩ := hown.form
  unfold maxLen at hcm
  have Hown := hid hown
  have Hr := hid hr
  have hz1 : ((r.xs.length : Int) == 0) = false := by rw [beq_eq_false_iff_ne]; omega
  clear hown hform hr
  rcases A with _ | ⟨ab, ao, asp⟩
  all_goals
    rcases Decidable.em (c = l.length) with rfl | hci
    all_goals
      go_enter Tryz.func172, Tryz.ntmps172
      go_wp2_with (at_builtin; refine appEs _ base _ l r Hr.out Hown.out rfl _ _ rfl rfl rfl ?_ ?_ ?_)
      all_goals try (first | omega | (simp; done) | (simp; omega))
      intro v8 w8 h8 f8 o8
      go_wp2_with fail
      go_ret
      exact ⟨v8, rfl, h8, o8.imp (fun o => o) (fun o => ⟨_, o, Nat.le_refl _⟩), f8⟩

set_option maxHeartbeats 16000000 in
set_option maxRecDepth 100000 in
theorem Eins_grow (base g off c i vb voff m vc : Nat) (l ys : List E) (X : World) (hown : Ow E.cells 5 base 59 X (.slice (some ⟨g, off, none⟩) l.length c) l) (hvs : ∀ j u, (ys.flatMap E.cells)[j]? = some u → X.cell? ⟨vb, voff + j, none⟩ = some u) (hvw : vb < X.heap.size)
    (hm : 0 < m) (hym : ys.length = m) (hm2 : m ≤ 1000) (hl : l.length ≤ 1000) (hb : base ≤ X.heap.size) (hi : i < l.length) (hroom : c < l.length + m) :
    Calls Tryz.prog 172 #[.slice (some ⟨g, off, none⟩) l.length c, .int .i64 i, .slice (some ⟨vb, voff, none⟩) m vc] X (EIns base X (.slice (some ⟨g, off, none⟩) l.length c) (l.take i ++ ys ++ l.drop i)) := by
  obtain ⟨i0, hi0, hz0, hzs, hzb⟩ := info_parts infoE
  obtain ⟨A', c', hv, hlc, hcm, hform⟩ := hown.form
  cases hv
  unfold maxLen at hcm
  have hc0 : 0 < c := by omega
  obtain ⟨g1, off1, hA1, hbg, hgl, hfo, _⟩ := hform hc0
  cases hA1
  have htk := hown.take (k := i) (by omega)
  have hdr := hown.drop (k := i) (by omega)
  have hlt : (l.take i).length = i := by rw [List.length_take]; omega
  have hld : (l.drop i).length = l.length - i := by rw [List.length_drop]
  have hz1 : ¬ ((m : Int) = 0) := by omega
  have hz2 : ¬ ((i : Int) = (l.length : Int)) := by omega
  have hz3 : (c : Int) < (l.length : Int) + (m : Int) := by omega
  have hkk : (l.length : Int) + (m : Int) - (i : Int) = ((l.length + m - i : Nat) : Int) := by omega
  have hik : i + (l.length + m - i) = l.length + m := by omega
  have hold : (Builtin.firstCells i0.size i (.slice (some ⟨g, off, none⟩) i c)).run Tryz.prog X.drew = .ok ((l.take i).flatMap E.cells).toArray X.drew := by
    rw [hzs]
    exact (htk.drew).firstCells E.cells_length (by decide) hlt
  obtain ⟨G, hG⟩ : ∃ G, G = grownCap X (l.length + m) c 59 := ⟨_, rfl⟩
  have hGn : l.length + m ≤ G := by rw [hG]; exact grownCap_ge X _ _ _
  have hG63 : G ≤ maxLen := by
    rw [hG]; exact grownCap_le_maxLen X (l.length + m) c 59 (by unfold maxLen; omega)
  have hrz : ∀ ty, (Builtin.append_ #[27, 3] ty #[.slice (some ⟨g, off, none⟩) i c, .int .i64 ((l.length : Int) + (m : Int) - (i : Int))]).run Tryz.prog X =
      .ok (.slice (some ⟨X.heap.size, 0, none⟩) (l.length + m) G) (X.drew.alloc (.cells (((l.take i).flatMap E.cells).toArray ++ Builtin.zeroCells E.zero.val.cells (l.length + m - i) ++ Builtin.zeroCells E.zero.val.cells (G - (l.length + m))) 59)) := fun ty => by
    have h := Lib.run_append_grow_zeros X 27 3 ty 59 i0 _ .i64 .i64 Tryz.underlying27 Tryz.underlying3 hi0 hz0 (some ⟨g, off, none⟩) i c _ hold (l.length + m - i) (by omega) (by omega) (by omega) (by omega) (by rw [hzb]; omega) (by rw [hik]; exact growslice_fits (by omega) (by rw [hzb]; omega))
    rw [hik] at h
    rw [hkk, hG]
    exact h
  have hOw1 := Ow.row_zeros (cells := E.cells) (n := 5) E.cells_length X.drew E.zero.val E.zero rfl (l.take i) (l.length + m - i) G 59 (by omega) hG63
  rw [hlt, hik] at hOw1
  obtain ⟨ROW, hROW⟩ : ∃ ROW : Array Value, ROW = ((l.take i).flatMap E.cells).toArray ++ Builtin.zeroCells E.zero.val.cells (l.length + m - i) ++ Builtin.zeroCells E.zero.val.cells (G - (l.length + m)) := ⟨_, rfl⟩
  rw [← hROW] at hrz hOw1
  have hN : X.drew.heap.size = X.heap.size := rfl
  rw [hN] at hOw1
  have hOw2 := hOw1.splice E.cells_length (i := i) ys (by simp; omega)
  have hOw3 := hOw2.splice E.cells_length (i := i + ys.length) (l.drop i) (by simp; omega)
  rw [ins_list l ys (List.replicate (l.length + m - i) E.zero) i (by omega) (by simp; omega), hym, Nat.zero_add, Nat.zero_add] at hOw3
  rw [Nat.zero_add] at hOw2
  obtain ⟨cur1, hB1, hc1⟩ := hOw1.blk (by omega)
  obtain ⟨cur2, hB2, hc2⟩ := hOw2.blk (by omega)
  rw [Nat.zero_add] at hc1 hc2
  have hfy := flat_length E.cells 5 E.cells_length ys
  have hfd := flat_length E.cells 5 E.cells_length (l.drop i)
  have hcp1 : ∀ W : World, W.heap = (X.drew.alloc (.cells ROW 59)).heap → ∀ ty dc, (Builtin.copy_ #[27, 27] ty #[.slice (some ⟨X.heap.size, i * 5, none⟩) (l.length + m - i) dc, .slice (some ⟨vb, voff, none⟩) m vc]).run Tryz.prog W = .ok (.int .i64 m) (W.setCells X.heap.size (i * 5) (ys.flatMap E.cells)) := fun W hW ty dc =>
    run_copy_row W X.heap.size (i * 5) (l.length + m - i) dc m vc m 5 _ ⟨vb, voff, none⟩ cur1 _ _ _ ty _ _ (by unfold Blk at hB1 ⊢; rw [hW]; exact hB1) (by omega) (by simp only [Nat.min_def]; split <;> omega) Tryz.underlying27 infoE (by rw [hfy, hym])
      (fun j u hj => by
        rw [Addr_add, cell_heap hW]
        exact (World.cell?_alloc_lt X.drew _ ⟨vb, voff + j, none⟩ hvw).trans (hvs j u hj)) (fun u hu => by
        obtain ⟨x, _, hx⟩ := List.mem_flatMap.1 hu
        exact x.one u hx)
  have hcp2 : ∀ W : World, W.heap = ((X.drew.alloc (.cells ROW 59)).setCells X.heap.size (i * 5) (ys.flatMap E.cells)).heap → ∀ ty dc, (Builtin.copy_ #[27, 27] ty #[.slice (some ⟨X.heap.size, (i + m) * 5, none⟩) (l.length + m - (i + m)) dc, .slice (some ⟨g, off + i * 5, none⟩) (l.length - i) (c - i)]).run Tryz.prog W = .ok (.int .i64 (l.length - i : Nat)) (W.setCells X.heap.size ((i + m) * 5) ((l.drop i).flatMap E.cells)) := fun W hW ty dc =>
    run_copy_row W X.heap.size ((i + m) * 5) (l.length + m - (i + m)) dc (l.length - i) (c - i) (l.length - i) 5 _ ⟨g, off + i * 5, none⟩ cur2 _ _ _ ty _ _ (by unfold Blk at hB2 ⊢; rw [hW]; exact hB2) (by omega) (by simp only [Nat.min_def]; split <;> omega) Tryz.underlying27 infoE (by rw [hfd, hld])
      (fun j u hj => by
        rw [Addr_add, cell_heap hW]
        have h1 := (Fr.setCells X.heap.size (ys.flatMap E.cells) (i * 5) (X.drew.alloc (.cells ROW 59)) (Fr.refl (fun k => k = X.heap.size) _) (.inl rfl)).cell (p := ⟨g, off + i * 5 + j, none⟩) (by rw [World.size_alloc]; exact Nat.lt_succ_of_lt hgl) (by show ¬ g = X.heap.size; omega)
        rw [h1]
        exact (World.cell?_alloc_lt X.drew _ ⟨g, off + i * 5 + j, none⟩ hgl).trans (hdr.cellsAt E.cells_length (by decide) j u hj)) (fun u hu => by
        obtain ⟨x, _, hx⟩ := List.mem_flatMap.1 hu
        exact x.one u hx)
  have hF3 : ∀ W : World, W = ((((X.alloc (.cells ROW 59)).drew.setCells X.heap.size (i * 5) (ys.flatMap E.cells)).drew).setCells X.heap.size ((i + m) * 5) ((l.drop i).flatMap E.cells)) → EIns base X (.slice (some ⟨g, off, none⟩) l.length c) (l.take i ++ ys ++ l.drop i) (.returned (.slice (some ⟨X.heap.size, 0, none⟩) (l.length + m) G)) W := fun W hW => by
    subst hW
    refine ⟨_, rfl, Ow.mono ?_ hb, .inr ⟨X.heap.size, foot_some (by omega), Nat.le_refl _⟩, Fr.setCells X.heap.size ((l.drop i).flatMap E.cells) ((i + m) * 5) _ (Fr.setCells X.heap.size (ys.flatMap E.cells) (i * 5) _ (((Fr.refl (fun k => some k = foot (.slice (some ⟨g, off, none⟩) l.length c)) X).alloc (.cells ROW 59)).drew) (.inr (Nat.le_refl _))).drew (.inr (Nat.le_refl _))⟩
    rw [← setCells_drew]
    exact Ow.heapEq hOw3 rfl
  have HF3 := hid hF3
  have Hcp1 := hid hcp1
  have Hcp2 := hid hcp2
  have Hrz := hid hrz
  have hGi : ¬ (G = i) := by omega
  have hGim : ¬ (G = i + m) := by omega
  have hci : ¬ (c = i) := by omega
  have hw1 : IntKind.i64.wrap ((i : Int) + (m : Int)) = (i : Int) + (m : Int) := by rw [IntKind.wrap_i64]; omega
  have hb1 : (0 : Int) ≤ (i : Int) + (m : Int) := by omega
  have hin : i ≤ l.length := by omega
  have htn : ((i : Int) + (m : Int)).toNat = i + m := by omega
  have hb3 : (i : Int) ≤ (l.length : Int) := by omega
  unfold maxLen at hG63
  clear hcp1 hcp2 hrz hF3 hOw1 hOw2 hOw3 hold hik hkk hROW hG hB1 hB2 hc1 hc2 hdr htk hlt hld hfy hfd hvs hown hform hN hym hi0 hz0 hzs hzb
  go_enter Tryz.func172, Tryz.ntmps172
  go_wp2_with (first
    | (at_builtin; refine Lib.wpList_append_run _ rfl _ _ _ _ rfl _ _ rfl rfl _ _ (Hrz.out _) ?_)
    | (refine wpList_copy_row _ rfl _ _ 27 27 rfl _ _ rfl rfl (Hcp1.out _ rfl _ _) ?_))
  have hcq := Hcp2.out (((X.alloc (.cells ROW 59)).drew.setCells X.heap.size (i * 5) (ys.flatMap E.cells)).drew) rfl 3 (G - (i + m))
  go_region_law (fail)
  go_wp2_with fail
  go_ret
  exact HF3.out _ rfl

set_option maxHeartbeats 16000000 in
set_option maxRecDepth 100000 in
theorem Eins_shift (base g off c i vb m vc : Nat) (l ys : List E) (X : World) (hown : Ow E.cells 5 base 59 X (.slice (some ⟨g, off, none⟩) l.length c) l) (cur0 : Array Value) (hvB : Blk X vb 59 cur0) (hvs : ∀ j u, (ys.flatMap E.cells)[j]? = some u → X.cell? ⟨vb, j, none⟩ = some u)
    (hne : vb ≠ g) (hm : 0 < m) (hym : ys.length = m) (hm2 : m ≤ 1000) (hl : l.length ≤ 1000) (hi : i < l.length) (hroom : l.length + m ≤ c) :
    Calls Tryz.prog 172 #[.slice (some ⟨g, off, none⟩) l.length c, .int .i64 i, .slice (some ⟨vb, 0, none⟩) m vc] X (EIns base X (.slice (some ⟨g, off, none⟩) l.length c) (l.take i ++ ys ++ l.drop i)) := by
  obtain ⟨A', c', hv, hlc, hcm, hform⟩ := hown.form
  cases hv
  unfold maxLen at hcm
  have hc0 : 0 < c := by omega
  obtain ⟨g1, off1, hA1, hbg, hgl, hfo, _⟩ := hform hc0
  cases hA1
  have hdr := hown.drop (k := i) (by omega)
  have hld : (l.drop i).length = l.length - i := by rw [List.length_drop]
  have hfy := flat_length E.cells 5 E.cells_length ys
  have hfd := flat_length E.cells 5 E.cells_length (l.drop i)
  have hvw := hvB.lt
  obtain ⟨cur1, hB1, hc1⟩ := hown.blk hc0
  have hz1 : ¬ ((m : Int) = 0) := by omega
  have hz2 : ¬ ((i : Int) = (l.length : Int)) := by omega
  have hin0 : i * 5 + (l.length + m - i) * 5 ≤ c * 5 := by rw [← Nat.add_mul]; exact Nat.mul_le_mul_right _ (by omega)
  have hcur0 : cur1.size ≠ 0 := by
    have := Nat.mul_le_mul_right 5 (show 1 ≤ c by omega)
    omega
  have hov : ∀ lb cb, (callFunc 183 #[.slice (some ⟨vb, 0, none⟩) m vc, .slice (some ⟨g, off + (i + m) * 5, none⟩) lb cb]).run Tryz.prog X = .ok (.value (.bool false)) X := fun lb cb => by
    rw [run_callFunc_extern Tryz.func183 (by kernel_rfl) (by kernel_rfl) (by kernel_rfl) (e := Extern.SlicesOverlaps.overlaps #[27, 27] #[4]) (by kernel_rfl),
      Lib.run_overlaps_apart X 27 4 59 Tryz.underlying27 5 (fun w => by kernel_rfl) ⟨vb, 0, none⟩ ⟨g, off + (i + m) * 5, none⟩ m vc lb cb hne 59 59 cur0.size cur1.size (by unfold Blk at hvB; simp [World.shape?, hvB]) (by unfold Blk at hB1; simp [World.shape?, hB1]) hcur0 (hvB.frozen _) (hvB.frozen _)]
    rfl
  have hcp1 : ∀ W : World, W.heap = X.heap → ∀ ty dc sc, (Builtin.copy_ #[27, 27] ty #[.slice (some ⟨g, off + (i + m) * 5, none⟩) (l.length + m - (i + m)) dc, .slice (some ⟨g, off + i * 5, none⟩) (l.length + m - i) sc]).run Tryz.prog W = .ok (.int .i64 (l.length - i : Nat)) (W.setCells g (off + (i + m) * 5) ((l.drop i).flatMap E.cells)) := fun W hW ty dc sc =>
    run_copy_row W g (off + (i + m) * 5) (l.length + m - (i + m)) dc (l.length + m - i) sc (l.length - i) 5 _ ⟨g, off + i * 5, none⟩ cur1 _ _ _ ty _ _ (by unfold Blk at hB1 ⊢; rw [hW]; exact hB1) (by omega) (by simp only [Nat.min_def]; split <;> omega) Tryz.underlying27 infoE (by rw [hfd, hld])
      (fun j u hj => by
        rw [Addr_add, cell_heap hW]
        exact hdr.cellsAt E.cells_length (by decide) j u hj) (fun u hu => by
        obtain ⟨x, _, hx⟩ := List.mem_flatMap.1 hu
        exact x.one u hx)
  obtain ⟨cur2, hB2, hc2, _, _⟩ := Blk.setCells ((l.drop i).flatMap E.cells) (off + (i + m) * 5) X cur1 hB1 (by omega)
  have hcp2 : ∀ W : World, W.heap = (X.setCells g (off + (i + m) * 5) ((l.drop i).flatMap E.cells)).heap → ∀ ty dc, (Builtin.copy_ #[27, 27] ty #[.slice (some ⟨g, off + i * 5, none⟩) (l.length + m - i) dc, .slice (some ⟨vb, 0, none⟩) m vc]).run Tryz.prog W = .ok (.int .i64 m) (W.setCells g (off + i * 5) (ys.flatMap E.cells)) := fun W hW ty dc =>
    run_copy_row W g (off + i * 5) (l.length + m - i) dc m vc m 5 _ ⟨vb, 0, none⟩ cur2 _ _ _ ty _ _ (by unfold Blk at hB2 ⊢; rw [hW]; exact hB2) (by omega) (by simp only [Nat.min_def]; split <;> omega) Tryz.underlying27 infoE (by rw [hfy, hym])
      (fun j u hj => by
        rw [Addr_add, cell_heap hW, Nat.zero_add]
        have h1 := (Fr.setCells g ((l.drop i).flatMap E.cells) (off + (i + m) * 5) X (Fr.refl (fun k => k = g) _) (.inl rfl)).cell (p := ⟨vb, j, none⟩) hvw hne
        rw [h1]
        exact hvs j u hj) (fun u hu => by
        obtain ⟨x, _, hx⟩ := List.mem_flatMap.1 hu
        exact x.one u hx)
  have hOw3 := hown.insm E.cells_length (i := i) (by omega) ys (by omega) hc0
  rw [hym] at hOw3
  have hF3 : ∀ W : World, W = ((X.drew.setCells g (off + (i + m) * 5) ((l.drop i).flatMap E.cells)).setCells g (off + i * 5) (ys.flatMap E.cells)) → EIns base X (.slice (some ⟨g, off, none⟩) l.length c) (l.take i ++ ys ++ l.drop i) (.returned (.slice (some ⟨g, off, none⟩) (l.length + m) c)) W := fun W hW => by
    subst hW
    refine ⟨_, rfl, ?_, .inl (foot_slice _ _ _ _), Fr.setCells g _ _ _ (Fr.setCells g _ _ _ (Fr.refl _ _).drew (.inl hfo.symm)) (.inl hfo.symm)⟩
    rw [← setCells_drew, ← setCells_drew]
    exact hOw3.drew
  have HF3 := hid hF3
  have Hcp1 := hid hcp1
  have Hcp2 := hid hcp2
  have Hov := hid hov
  have hw1 : IntKind.i64.wrap ((i : Int) + (m : Int)) = (i : Int) + (m : Int) := by rw [IntKind.wrap_i64]; omega
  have hb1 : (0 : Int) ≤ (i : Int) + (m : Int) := by omega
  have hin : i ≤ l.length := by omega
  have htn : ((i : Int) + (m : Int)).toNat = i + m := by omega
  have hb2 : ¬ (c = i + m) := by omega
  have hb3 : (i : Int) ≤ (l.length : Int) + (m : Int) := by omega
  have hb4 : ¬ (c = i) := by omega
  clear hcp1 hcp2 hov hF3 hOw3 hB1 hB2 hc1 hc2 hdr hld hfy hfd hvs hown hform hym hvB hin0 hcur0 hfo
  go_enter Tryz.func172, Tryz.ntmps172
  go_wp2_with (rw [Hov.out])
  have hcq := Hcp1.out X.drew rfl 3 (c - (i + m)) (c - i)
  go_region_law (fail)
  clear hcq
  go_wp2_with (refine wpList_copy_row _ rfl _ _ 27 27 rfl _ _ rfl rfl (Hcp2.out _ (by rw [← setCells_drew]; rfl) _ _) ?_)
  go_ret
  exact HF3.out _ rfl

/-- slices.Insert of one, in a box of its own -/
theorem Eins_any (base : Nat) (v : Value) (l : List E) (x0 : Int) (x1 : Int) (x2 : Int) (x3 : Bool) (x4 : ByteArray) (hx : (⟨x0, x1, x2, x3, x4⟩ : E).good) (g' i : Nat) (X : World) (hown : Ow E.cells 5 base 59 X v l) (hbox : Blk X g' 59 #[.int .i64 x0, .int .i64 x1, .int .i64 x2, .bool x3, .string x4]) (hne : foot v ≠ some g') (hi : i ≤ l.length) (hl : l.length ≤ 1000) (hb : base ≤ X.heap.size) :
    Calls Tryz.prog 172 #[v, .int .i64 i, .slice (some ⟨g', 0, none⟩) 1 1] X (EIns base X v (l.take i ++ ⟨x0, x1, x2, x3, x4⟩ :: l.drop i)) := by
  have hbx : EsAt X ⟨some ⟨g', 0, none⟩, 1, [⟨x0, x1, x2, x3, x4⟩]⟩ := ⟨fun _ => ⟨g', 0, rfl, hbox.lt, fun i hi => by
    obtain rfl : i = 0 := by simpa using hi
    exact EAt.of_blk hbox⟩, fun y hy => by rw [List.mem_singleton.1 hy]; exact hx, by unfold maxLen; simp⟩
  by_cases he : i = l.length
  · subst he
    have := Eins_end base v l ⟨some ⟨g', 0, none⟩, 1, [⟨x0, x1, x2, x3, x4⟩]⟩ (by simp) (by simp) X hbx hown hl hb
    rw [List.take_length, List.drop_length]
    exact this
  · have hil : i < l.length := by omega
    obtain ⟨g, off, c, rfl, hlc, _, _, _, hfo, _, _⟩ := hown.get (by omega)
    have hvs : ∀ j u, (([⟨x0, x1, x2, x3, x4⟩] : List E).flatMap E.cells)[j]? = some u → X.cell? ⟨g', j, none⟩ = some u := fun j u hj => by
      rw [hbox.cell j]
      simpa [E.cells] using hj
    have hcat : l.take i ++ ⟨x0, x1, x2, x3, x4⟩ :: l.drop i = l.take i ++ [⟨x0, x1, x2, x3, x4⟩] ++ l.drop i := by simp
    rw [hcat]
    by_cases hroom : l.length + 1 ≤ c
    · exact Eins_shift base g off c i g' 1 1 l [⟨x0, x1, x2, x3, x4⟩] X hown _ hbox hvs (fun e => hne (by rw [hfo, e])) (by decide) rfl (by decide) hl hil hroom
    · exact Eins_grow base g off c i g' 0 1 1 l [⟨x0, x1, x2, x3, x4⟩] X hown (fun j u hj => by rw [Nat.zero_add]; exact hvs j u hj) hbox.lt (by decide) rfl (by decide) hl hb hil (by omega)
end Go.Proofs.YtemhdfodghfkfaaGreatDoor
namespace Go.Proofs.YtemhdfodghfkfaaGreatDoor
open Go.RowKit
open Go.ChangeShapes Go.WideShapes Go.ChangeAt

set_option maxHeartbeats 1000000 in
theorem eclone_any (s : SlV E) (w : World) (hs : EsAt w s) (hn : s.xs.length ≤ 1000) :
    Calls Tryz.prog 141 #[.slice s.A s.xs.length s.c] w fun e w' => ∃ v, e = .returned v ∧ Ow E.cells 5 w.heap.size 59 w' v s.xs ∧ Below w.heap.size w w' := by
  have hnil := fun (W : World) (A : Option Addr) (n c n' c' : Nat) => Lib.run_eql_slice_nil (P := Tryz.prog) W 27 59 A n c n' c' Tryz.underlying27
  rcases hA : s.A with _ | a
  · have h0 : s.xs = [] := by
      rcases Nat.eq_zero_or_pos s.xs.length with h | h
      · exact List.eq_nil_of_length_eq_zero h
      · obtain ⟨b, off, h1, _⟩ := hs.row h
        rw [hA] at h1; cases h1
    have H0 := hid h0
    clear hA h0
    go_enter Tryz.func141, Tryz.ntmps141
    go_wp2_with fail
    go_ret
    exact ⟨_, rfl, by rw [H0.out]; exact Ow.nil _ _ _ _ _, by (repeat (first | with_reducible exact Below.refl _ _ | with_reducible assumption | (with_reducible refine Below.drew ?_) | (with_reducible refine Below.manyDrew ?_ _) | ((with_reducible refine Below.alloc ?_ ?_ _); rotate_left; (focus (first | omega | (dsimp only; omega) | (simp; done) | (simp; omega)))) | ((with_reducible refine Below.setCell ?_ ?_ _); rotate_left; (focus (first | omega | (dsimp only; omega) | (simp; done) | (simp; omega)))) | ((with_reducible refine Below.step ?_ (by assumption) ?_); rotate_left; (focus (first | omega | (dsimp only; omega) | (simp; done) | (simp; omega))))))⟩
  · have hs2 : EsAt w ⟨some a, s.c, s.xs⟩ := by rw [← hA]; exact hs
    clear hA
    have hnb : (some a).isNone = false := rfl
    go_enter Tryz.func141, Tryz.ntmps141
    go_wp2_with (at_builtin; refine appEs _ w.heap.size _ [] ⟨some a, s.c, s.xs⟩ (hs2.stays ?c0) (Ow.bare _ _ _ _ _ _) rfl _ _ rfl rfl rfl ?c1 ?c2 ?_)
    case c0 => (repeat (first | with_reducible exact Below.refl _ _ | with_reducible assumption | (with_reducible refine Below.drew ?_) | (with_reducible refine Below.manyDrew ?_ _) | ((with_reducible refine Below.alloc ?_ ?_ _); rotate_left; (focus (first | omega | (dsimp only; omega) | (simp; done) | (simp; omega)))) | ((with_reducible refine Below.setCell ?_ ?_ _); rotate_left; (focus (first | omega | (dsimp only; omega) | (simp; done) | (simp; omega)))) | ((with_reducible refine Below.step ?_ (by assumption) ?_); rotate_left; (focus (first | omega | (dsimp only; omega) | (simp; done) | (simp; omega))))))
    case c1 => first | omega | (simp; omega)
    case c2 => first | omega | simp
    intro v' w2 hown2 hf2 _
    have hb2 : Below w.heap.size w w2 := (show Below w.heap.size w _ by (repeat (first | with_reducible exact Below.refl _ _ | with_reducible assumption | (with_reducible refine Below.drew ?_) | (with_reducible refine Below.manyDrew ?_ _) | ((with_reducible refine Below.alloc ?_ ?_ _); rotate_left; (focus (first | omega | (dsimp only; omega) | (simp; done) | (simp; omega)))) | ((with_reducible refine Below.setCell ?_ ?_ _); rotate_left; (focus (first | omega | (dsimp only; omega) | (simp; done) | (simp; omega)))) | ((with_reducible refine Below.step ?_ (by assumption) ?_); rotate_left; (focus (first | omega | (dsimp only; omega) | (simp; done) | (simp; omega))))))).trans (hf2.below0 (by simp) (fun i hi => by cases hi))
    clear hf2
    go_wp2_with fail
    go_ret
    exact ⟨v', rfl, hown2, hb2⟩
end Go.Proofs.YtemhdfodghfkfaaGreatDoor
namespace Go.Proofs.YtemhdfodghfkfaaGreatDoor
open Go.RowKit
open Go.ChangeShapes Go.WideShapes Go.ChangeAt

/-- what a call that hands out a cache does -/
def CRes (w : World) (l' : List E) (en : Int) (e : Ending) (w' : World) : Prop :=
  ∃ v, e = .returned (.tuple #[v, errV en]) ∧ Ow E.cells 5 w.heap.size 59 w' v l' ∧ Below w.heap.size w w'

theorem CRes.alloc {w : World} {l' : List E} {en : Int} {e : Ending} {X : World} (h : CRes w l' en e X) (o : Obj) : CRes w l' en e (X.alloc o) := by
  obtain ⟨v, he, hO, hb⟩ := h
  exact ⟨v, he, hO.alloc o, hb.alloc hb.size o⟩
/-- an entry of the call's own cache is written anew: what the call hands out -/
theorem added_fin {w w2 WB : World} {g off c p : Nat} {l : List E} {r0 r1 r2 : Int} {r3 : Bool} {r4 : ByteArray} (hOw : Ow E.cells 5 (w.heap.size + 1) 59 w2 (.slice (some ⟨g, off, none⟩) l.length c) l) (hpl : p < l.length) (hF : Fr (fun k => w2.heap.size ≤ k) w2 WB) (hb : Below w.heap.size w WB) :
    CRes w (l.set p ⟨r0, r1, r2, r3, r4⟩) 0 (.returned (.tuple #[.slice (some ⟨g, off, none⟩) l.length c, .nilIface]))
      (((((WB.setCell ⟨g, off + p * 5, none⟩ (.int .i64 r0)).setCell ⟨g, off + p * 5 + 1, none⟩ (.int .i64 r1)).setCell ⟨g, off + p * 5 + 2, none⟩ (.int .i64 r2)).setCell ⟨g, off + p * 5 + 3, none⟩ (.bool r3)).setCell ⟨g, off + p * 5 + 4, none⟩ (.string r4)) := by
  obtain ⟨A', c', hv, hlc, _, hform⟩ := hOw.form
  cases hv
  obtain ⟨g1, off1, hA1, hbg, hgl, hfo, _⟩ := hform (by omega)
  cases hA1
  have h1 := (hOw.fr hF (fun g' hg' h => by rw [hfo] at hg'; cases hg'; omega)).set E.cells_length hpl (⟨r0, r1, r2, r3, r4⟩ : E)
  have hg : w.heap.size ≤ g := by omega
  exact ⟨_, rfl, h1.mono (by omega), ((((hb.setCell (p := ⟨g, _, none⟩) hg _).setCell (p := ⟨g, _, none⟩) hg _).setCell (p := ⟨g, _, none⟩) hg _).setCell (p := ⟨g, _, none⟩) hg _).setCell (p := ⟨g, _, none⟩) hg _⟩

set_option maxHeartbeats 16000000 in
set_option maxRecDepth 100000 in
theorem added_new (s : SlV E) (x0 x1 x2 : Int) (x3 : Bool) (x4 : ByteArray) (w : World) (hx : (⟨x0, x1, x2, x3, x4⟩ : E).good) (hk : 0 ≤ x0 ∧ x0 < 8) (hs : EsAt w s) (hS : SortedK s.xs) (hK : KeysIn s.xs) (hn : s.xs.length ≤ 8) (hh : hasK x0 s.xs = false) :
    Calls Tryz.prog 158 #[.slice s.A s.xs.length s.c, .agg #[.int .i64 x0, .int .i64 x1, .int .i64 x2, .bool x3, .string x4]] w (CRes w (addC s.xs ⟨x0, x1, x2, x3, x4⟩).1 (addC s.xs ⟨x0, x1, x2, x3, x4⟩).2) := by
  have HP := hid (fun (r : SlV E) (hrx : r.xs = s.xs) W (hr : EsAt W r) => show Calls Tryz.prog 137 #[.slice r.A r.xs.length r.c, .int .i64 x0] W (fun e w' => e = .returned (.tuple #[.int .i64 (plc x0 s.xs), .bool (hasK x0 s.xs)]) ∧ Below W.heap.size W w') from by
    have := place_any x0 r W hr.entries (by rw [hrx]; exact hS) (by rw [hrx]; exact hK) hk (by rw [hrx]; exact hn)
    rw [hrx] at this ⊢
    exact this)
  have hple := plc_le x0 s.xs
  have Hs := hid hs
  have Hgood := hid hs.each
  have hX0 : Blk (w.alloc (.cells #[.int .i64 x0, .int .i64 x1, .int .i64 x2, .bool x3, .string x4] 59)) w.heap.size 59 #[.int .i64 x0, .int .i64 x1, .int .i64 x2, .bool x3, .string x4] := Blk.new _ _ _
  have HX0 := hid hX0
  clear hS hK hs hX0 hk
  rw [addC, if_neg (show ¬ hasK (⟨x0, x1, x2, x3, x4⟩ : E).key s.xs = true by rw [hh]; decide)]
  show Calls _ _ _ _ (CRes w (s.xs.take (plc x0 s.xs) ++ ⟨x0, x1, x2, x3, x4⟩ :: s.xs.drop (plc x0 s.xs)) 0)
  generalize hp : plc x0 s.xs = p at *
  have Hh := hid hh
  clear hh hp
  go_enter Tryz.func158, Tryz.ntmps158
  go_wp2_with fail
  refine (eclone_any s _ (Hs.out.stays (by (repeat (first | with_reducible exact Below.refl _ _ | with_reducible assumption | (with_reducible refine Below.drew ?_) | (with_reducible refine Below.manyDrew ?_ _) | ((with_reducible refine Below.alloc ?_ ?_ _); rotate_left; (focus (first | omega | (dsimp only; omega) | (simp; done) | (simp; omega)))) | ((with_reducible refine Below.setCell ?_ ?_ _); rotate_left; (focus (first | omega | (dsimp only; omega) | (simp; done) | (simp; omega)))) | ((with_reducible refine Below.step ?_ (by assumption) ?_); rotate_left; (focus (first | omega | (dsimp only; omega) | (simp; done) | (simp; omega)))))))) (by omega)).mono ?_
  rintro e w1 ⟨v, rfl, hOw1, hb1⟩
  have hz1 := hb1.size
  rw [World.size_alloc] at hz1 hOw1
  have hb1' : Below w.heap.size w w1 := (show Below w.heap.size w _ by (repeat (first | with_reducible exact Below.refl _ _ | with_reducible assumption | (with_reducible refine Below.drew ?_) | (with_reducible refine Below.manyDrew ?_ _) | ((with_reducible refine Below.alloc ?_ ?_ _); rotate_left; (focus (first | omega | (dsimp only; omega) | (simp; done) | (simp; omega)))) | ((with_reducible refine Below.setCell ?_ ?_ _); rotate_left; (focus (first | omega | (dsimp only; omega) | (simp; done) | (simp; omega)))) | ((with_reducible refine Below.step ?_ (by assumption) ?_); rotate_left; (focus (first | omega | (dsimp only; omega) | (simp; done) | (simp; omega))))))).trans (hb1.mono (by simp))
  obtain ⟨r, hv, hrx, hrA, _, _⟩ := EsAt.of_ow hOw1 Hgood.out
  have HOw1 := hid hOw1
  have Hb1 := hid hb1'
  have hX1 := HX0.out.belowS hb1
  have Hv := hid hv
  have Hrx := hid hrx
  have HX1 := hid hX1
  rw [hv]
  have k0 : w1.cell? ⟨w.heap.size, 0, none⟩ = some (.int .i64 x0) := hX1.cell 0
  clear hOw1 hb1' hX1 hb1 hv hrx
  go_wp2_with fail
  refine (HP.out r Hrx.out w1 hrA).mono ?_
  rw [Hh.out]
  rintro e w2 ⟨rfl, hb2⟩
  have hX2 := HX1.out.belowS hb2
  have d0 : w2.cell? ⟨w.heap.size, 0, none⟩ = some (.int .i64 x0) := hX2.cell 0
  have d1 : w2.cell? ⟨w.heap.size, 1, none⟩ = some (.int .i64 x1) := hX2.cell 1
  have d2 : w2.cell? ⟨w.heap.size, 2, none⟩ = some (.int .i64 x2) := hX2.cell 2
  have d3 : w2.cell? ⟨w.heap.size, 3, none⟩ = some (.bool x3) := hX2.cell 3
  have d4 : w2.cell? ⟨w.heap.size, 4, none⟩ = some (.string x4) := hX2.cell 4
  have HOw2 := hid (HOw1.out.belowS hb2)
  have Hb2 := hid (Below.step Hb1.out hb2 (by omega))
  have hz2 := hb2.size
  clear hX2 hb2 k0
  go_wp2_with fail
  refine (Eins_any (w.heap.size + 1) (.slice r.A r.xs.length r.c) s.xs x0 x1 x2 x3 x4 hx w2.heap.size p _ ?_ (Blk.new w2 _ _) ?_ (by omega) (by omega) (by simp; omega)).mono ?_
  · rw [← Hv.out]; exact HOw2.out.alloc _
  · intro h; rw [← Hv.out] at h; have := (HOw2.out.lt h).2; omega
  rintro e w3 ⟨v3, rfl, hOw3, _, hF3⟩
  have hb3 : Below w.heap.size w w3 := (Hb2.out.alloc (by omega) _).trans (hF3.below0 (by simp; omega) (fun i hi => by rw [← Hv.out] at hi; have := HOw2.out.ge i hi; omega))
  have HOw3 := hid (hOw3.mono (base' := w.heap.size) (by omega))
  have Hb3 := hid hb3
  clear hOw3 hF3 hb3
  go_wp2_with fail
  go_ret2
  exact ⟨_, rfl, HOw3.out, Hb3.out⟩
end Go.Proofs.YtemhdfodghfkfaaGreatDoor
namespace Go.Proofs.YtemhdfodghfkfaaGreatDoor
open Go.RowKit
open Go.ChangeShapes Go.WideShapes Go.ChangeAt

/-- an entry in a box of the call's own -/
def BoxR (w0 : World) (cs : Array Value) (a : Value) (wx : World) : Prop := ∃ g9, a = .pointer (some ⟨g9, 0, none⟩) ∧ w0.heap.size ≤ g9 ∧ Blk wx g9 59 cs ∧ Below w0.heap.size w0 wx
theorem BoxR.mk1 {w0 X : World} {cs : Array Value} {g : Nat} (hb : Below w0.heap.size w0 X) (hg : g = X.heap.size) : BoxR w0 cs (.pointer (some ⟨g, 0, none⟩)) (X.alloc (.cells cs 59)) :=
  ⟨_, rfl, by rw [hg]; exact hb.size, by rw [hg]; exact Blk.new _ _ _, hb.alloc hb.size _⟩
theorem BoxR.mk2 {w0 X : World} {a b c d e x0 x1 x2 x3 x4 : Value} {g : Nat} (hB : Blk X g 59 #[a, b, c, d, e]) (hg : w0.heap.size ≤ g) (hb : Below w0.heap.size w0 X) :
    BoxR w0 #[x0, x1, x2, x3, x4] (.pointer (some ⟨g, 0, none⟩)) (((((X.setCell ⟨g, 0, none⟩ x0).setCell ⟨g, 1, none⟩ x1).setCell ⟨g, 2, none⟩ x2).setCell ⟨g, 3, none⟩ x3).setCell ⟨g, 4, none⟩ x4) :=
  ⟨_, rfl, hg, hB.put5 _ _ _ _ _, ((((hb.setCell (p := ⟨g, 0, none⟩) hg _).setCell (p := ⟨g, 1, none⟩) hg _).setCell (p := ⟨g, 2, none⟩) hg _).setCell (p := ⟨g, 3, none⟩) hg _).setCell (p := ⟨g, 4, none⟩) hg _⟩
theorem Blk.newD {w X : World} {t : TypeId} {cs : Array Value} (hb : Below (w.drew.alloc (.cells cs t)).heap.size (w.drew.alloc (.cells cs t)) X) : Blk X w.heap.size t cs := (Blk.new w.drew t cs).belowS hb
theorem Blk.newA {w X : World} {t : TypeId} {cs : Array Value} (hb : Below (w.alloc (.cells cs t)).drew.heap.size (w.alloc (.cells cs t)).drew X) : Blk X w.heap.size t cs := (show Blk (w.alloc (.cells cs t)).drew w.heap.size t cs from Blk.new w t cs).belowS hb
end Go.Proofs.YtemhdfodghfkfaaGreatDoor
namespace Go.Proofs.YtemhdfodghfkfaaGreatDoor
open Go.RowKit

theorem keep2_alloc {w0 W : World} {p1 p2 : Addr} {v1 v2 : Value} (o : Obj) (l1 : p1.block < w0.heap.size) (l2 : p2.block < w0.heap.size) (h : Below w0.heap.size w0 W ∧ W.cell? p1 = some v1 ∧ W.cell? p2 = some v2) : Below w0.heap.size w0 (W.alloc o) ∧ (W.alloc o).cell? p1 = some v1 ∧ (W.alloc o).cell? p2 = some v2 :=
  ⟨h.1.alloc h.1.size o, (World.cell?_alloc_lt W o p1 (Nat.lt_of_lt_of_le l1 h.1.size)).trans h.2.1, (World.cell?_alloc_lt W o p2 (Nat.lt_of_lt_of_le l2 h.1.size)).trans h.2.2⟩
theorem keep2_below {w0 W : World} {p1 p2 : Addr} {v1 v2 : Value} (l1 : p1.block < w0.heap.size) (l2 : p2.block < w0.heap.size) (c1 : w0.cell? p1 = some v1) (c2 : w0.cell? p2 = some v2) (h : Below w0.heap.size w0 W) : Below w0.heap.size w0 W ∧ W.cell? p1 = some v1 ∧ W.cell? p2 = some v2 :=
  ⟨h, (h.cell l1).trans c1, (h.cell l2).trans c2⟩
theorem keep3_alloc {w0 W : World} {p1 p2 p3 : Addr} {v1 v2 v3 : Value} (o : Obj) (l1 : p1.block < w0.heap.size) (l2 : p2.block < w0.heap.size) (l3 : p3.block < w0.heap.size) (h : Below w0.heap.size w0 W ∧ W.cell? p1 = some v1 ∧ W.cell? p2 = some v2 ∧ W.cell? p3 = some v3) : Below w0.heap.size w0 (W.alloc o) ∧ (W.alloc o).cell? p1 = some v1 ∧ (W.alloc o).cell? p2 = some v2 ∧ (W.alloc o).cell? p3 = some v3 :=
  ⟨h.1.alloc h.1.size o, (World.cell?_alloc_lt W o p1 (Nat.lt_of_lt_of_le l1 h.1.size)).trans h.2.1, (World.cell?_alloc_lt W o p2 (Nat.lt_of_lt_of_le l2 h.1.size)).trans h.2.2.1, (World.cell?_alloc_lt W o p3 (Nat.lt_of_lt_of_le l3 h.1.size)).trans h.2.2.2⟩
theorem keep3_below {w0 W : World} {p1 p2 p3 : Addr} {v1 v2 v3 : Value} (l1 : p1.block < w0.heap.size) (l2 : p2.block < w0.heap.size) (l3 : p3.block < w0.heap.size) (c1 : w0.cell? p1 = some v1) (c2 : w0.cell? p2 = some v2) (c3 : w0.cell? p3 = some v3) (h : Below w0.heap.size w0 W) : Below w0.heap.size w0 W ∧ W.cell? p1 = some v1 ∧ W.cell? p2 = some v2 ∧ W.cell? p3 = some v3 :=
  ⟨h, (h.cell l1).trans c1, (h.cell l2).trans c2, (h.cell l3).trans c3⟩
end Go.Proofs.YtemhdfodghfkfaaGreatDoor
