/-
  CONTRACT of slices.Compact at points of the call's own. CONDITIONS: none.
-/
import Derived.Test.YtepddjfbkjplfaaGreatDoorRgLaw
import Derived.Deep.CutBlock
import Derived.Deep.DeepCutAuto
namespace Go.Proofs.YtepddjfbkjplfaaGreatDoor
open Go.RowKit
open Go.ChangeShapes Go.WideShapes Go.ChangeAt

theorem Ow.room {α : Type} {cells : α → List Value} {n base : Nat} {T : TypeId} {w : World} {g off len cap : Nat} {l : List α} (h : Ow cells n base T w (.slice (some ⟨g, off, none⟩) len cap) l) (h0 : 0 < l.length) :
    len = l.length ∧ l.length ≤ cap ∧ cap ≤ maxLen ∧ base ≤ g ∧ g < w.heap.size := by
  obtain ⟨g', off', cap', he, h1, h2, h3, h4, _⟩ := h.get h0
  cases he
  exact ⟨rfl, h1, h2, h3, h4⟩
set_option maxHeartbeats 8000000 in
set_option maxRecDepth 100000 in
theorem compact_any (base g off cap : Nat) (l : List Pt) (w : World) (h0 : 0 < l.length) (hO : Ow Pt.cells 2 base 44 w (.slice (some ⟨g, off, none⟩) l.length cap) l) (hn : l.length ≤ 1000) :
    Calls Tryz.prog 21 #[.slice (some ⟨g, off, none⟩) l.length cap] w fun e w' =>
      ∃ k, e = .returned (.slice (some ⟨g, off, none⟩) k cap) ∧ Ow Pt.cells 2 base 44 w' (.slice (some ⟨g, off, none⟩) k cap) (compP l) ∧ Fr (fun j => j = g) w w' := by
  obtain ⟨-, hlc, hcm, -, hgl⟩ := hO.room h0
  unfold maxLen at hcm
  have HO := hid hO
  clear hO
  by_cases h2 : l.length < 2
  · have h1 : l.length = 1 := by omega
    have hc1 : compP l = l := by
      have := compP_one h0
      rw [← h1, List.take_length] at this
      exact this
    have h2' : (l.length : Int) < 2 := by omega
    go_enter Tryz.func21, Tryz.ntmps21
    go_wp2_with fail
    go_ret
    exact ⟨l.length, rfl, by rw [hc1]; exact HO.out, Fr.refl _ _⟩
  have h2' : ¬ (l.length : Int) < 2 := by omega
  have hC1 := hid (compP_one h0)
  go_enter Tryz.func21, Tryz.ntmps21
  go_wp2_with fail
  go_loopw [3] (fun i wr => ∃ k : Nat, 1 ≤ k ∧ k ≤ l.length ∧ i = .int .i64 k ∧ compP (l.take k) = l.take k ∧ Below w.heap.size w wr) (fun i _ => l.length - (intOf i).toNat)
  case atStart => exact ⟨1, Nat.le_refl _, by omega, rfl, hC1.out, Below.refl _ _⟩
  case round =>
    obtain ⟨k, hk1, hk, rfl, hc, hbr⟩ := hrel
    obtain ⟨wk, rfl⟩ : ∃ wk : World, wk = wr := ⟨_, rfl⟩
    have hOk := HO.out.belowS hbr
    have Hbr := hid hbr
    have Hc := hid hc
    have hzk := hbr.size
    by_cases hlt : k < l.length
    · obtain ⟨c0, c1⟩ := hOk.ptAt hlt
      obtain ⟨d0, d1⟩ := hOk.ptAt (show k - 1 < l.length by omega)
      have hsucc := compP_take_succ (l := l) (k := k - 1) (by omega)
      rw [show k - 1 + 2 = k + 1 by omega, show k - 1 + 1 = k by omega, hc] at hsucc
      have htk := take_snocD Pt.zero hlt
      have hgk : g < wk.heap.size := by omega
      have heqi := eqbPt_iff (l.getD k Pt.zero) (l.getD (k - 1) Pt.zero)
      obtain ⟨x, hx⟩ : ∃ x, l.getD k Pt.zero = x := ⟨_, rfl⟩
      obtain ⟨y, hy⟩ : ∃ y, l.getD (k - 1) Pt.zero = y := ⟨_, rfl⟩
      rw [hx] at c0 c1 hsucc htk heqi
      rw [hy] at d0 d1 hsucc heqi
      obtain ⟨x0, x1⟩ := x
      obtain ⟨y0, y1⟩ := y
      simp only at c0 c1 d0 d1
      have hk0 : 0 < k := by omega
      have hkl : (k : Int) < (l.length : Int) := by omega
      have heq := fun W => eqRunPt x0 x1 y0 y1 W
      have HOk := hid hOk
      have Hx := hid hx
      have Hy := hid hy
      clear hc hbr hOk hx hy
      rcases hb : eqbPt ⟨x0, x1⟩ ⟨y0, y1⟩ with _ | _
      · have hne : ¬ (⟨y0, y1⟩ : Pt) = ⟨x0, x1⟩ := fun e => by
          rw [e, eqbPt_refl] at hb
          cases hb
        rw [if_neg hne, ← htk] at hsucc
        have Hs := hid hsucc
        rw [hb] at heq
        clear hsucc htk heqi hb hne
        go_wp2_with fail
        go_quiet (fail)
        go_wp2_with fail
        go_roundw
        case rel => exact ⟨k + 1, by omega, by omega, by go_num, Hs.out, Below.manyDrew Hbr.out _⟩
        case measure => simp [intOf]; omega
      · have hxy : (⟨x0, x1⟩ : Pt) = ⟨y0, y1⟩ := heqi.1 hb
        rw [if_pos hxy.symm] at hsucc
        have Hs := hid hsucc
        rw [hb] at heq
        clear hsucc htk heqi hb hxy
        go_wp2_with fail
        go_quiet (fail)
        have hck : ¬ cap = k := by omega
        have hkc : k ≤ cap := by omega
        have hlc' : (l.length : Int) ≤ (cap : Int) := by omega
        have hkl' : (k : Int) ≤ (l.length : Int) := by omega
        clear c0 c1 d0 d1 heq
        go_wp2_with fail
        go_loopw [3, 5] (fun i j wr => ∃ (m k2 : Nat) (L : List Pt), i = .int .i64 m ∧ j = .int .i64 k2 ∧ 1 ≤ k2 ∧ k + k2 ≤ l.length ∧ m < k + k2 ∧ L.length = l.length ∧ compP (l.take (k + k2)) = L.take m ∧ (∀ q, k + k2 ≤ q + 1 → L.getD q Pt.zero = l.getD q Pt.zero) ∧
          Ow Pt.cells 2 base 44 wr (.slice (some ⟨g, off, none⟩) l.length cap) L ∧ Fr (fun j => j = g) w wr) (fun _ j _ => l.length - (intOf j).toNat)
        case atStart => exact ⟨k, 1, l, rfl, rfl, Nat.le_refl _, by omega, by omega, rfl, Hs.out, fun _ _ => rfl, HOk.out.drewN _, (Fr.ofB Hbr.out).drewN _⟩
        case round =>
          obtain ⟨m, k2, L, rfl, rfl, hk2, hkk, hm, hLl, hcm2, hsame, hOw, hF⟩ := hrel
          obtain ⟨wj, rfl⟩ : ∃ wj : World, wj = wr := ⟨_, rfl⟩
          have HF := hid hF
          have hgj : g < wj.heap.size := by have := hF.size; omega
          have Hcm := hid hcm2
          have Hsame := hid hsame
          have HLl := hid hLl
          clear hF hcm2 hsame
          by_cases hlt2 : k + k2 < l.length
          · obtain ⟨c0, c1⟩ := hOw.ptAt (show k + k2 < L.length by omega)
            obtain ⟨d0, d1⟩ := hOw.ptAt (show k + k2 - 1 < L.length by omega)
            obtain ⟨e0, e1⟩ := hOw.ptAt (show m < L.length by omega)
            obtain ⟨cur, hB, hcur⟩ := hOw.blk (by omega)
            have f0 := hB.frozen (off + m * 2)
            have f1 := hB.frozen (off + m * 2 + 1)
            rw [Hsame.out _ (by omega)] at c0 c1 d0 d1
            rw [show off + (k + k2) * 2 = off + k * 2 + k2 * 2 by omega] at c0 c1
            rw [show off + (k + k2 - 1) * 2 = off + k * 2 + (k2 - 1) * 2 by omega] at d0 d1
            have hsucc := compP_take_succ (l := l) (k := k + k2 - 1) (by omega)
            rw [show k + k2 - 1 + 2 = k + (k2 + 1) by omega, show k + k2 - 1 + 1 = k + k2 by omega, Hcm.out] at hsucc
            have HSet := hid (fun n x => (hOw.drewN n).set Pt.cells_length (i := m) (by omega) x)
            have HOw := hid hOw
            generalize L.getD m Pt.zero = z at *
            obtain ⟨z0, z1⟩ := z
            obtain ⟨u, hu⟩ : ∃ u, l.getD (k + k2) Pt.zero = u := ⟨_, rfl⟩
            obtain ⟨v, hv⟩ : ∃ v, l.getD (k + k2 - 1) Pt.zero = v := ⟨_, rfl⟩
            rw [hu] at c0 c1 hsucc
            rw [hv] at d0 d1 hsucc
            have Hu := hid hu
            obtain ⟨u0, u1⟩ := u
            obtain ⟨v0, v1⟩ := v
            simp only at c0 c1 d0 d1 e0 e1
            have heqi := eqbPt_iff ⟨u0, u1⟩ ⟨v0, v1⟩
            have heq := fun W => eqRunPt u0 u1 v0 v1 W
            have hk20 : 0 < k2 := by omega
            have hk2l : (k2 : Int) < ((l.length - k : Nat) : Int) := by omega
            have hml : (m : Int) < (l.length : Int) := by omega
            clear hOw hB hu hv hLl hcur
            rcases hb : eqbPt ⟨u0, u1⟩ ⟨v0, v1⟩ with _ | _
            · have hne : ¬ (⟨v0, v1⟩ : Pt) = ⟨u0, u1⟩ := fun e => by
                rw [e, eqbPt_refl] at hb
                cases hb
              rw [if_neg hne] at hsucc
              have Hs2 := hid (show compP (l.take (k + (k2 + 1))) = (L.set m ⟨u0, u1⟩).take (m + 1) from by
                rw [hsucc, take_snocD Pt.zero (by rw [List.length_set, HLl.out]; omega), List.take_set, List.set_eq_of_length_le (by rw [List.length_take]; omega), List.getD_eq_getElem?_getD, List.getElem?_set_self (by rw [HLl.out]; omega)]
                rfl)
              have Hsm2 := hid (show ∀ q, k + (k2 + 1) ≤ q + 1 → (L.set m ⟨u0, u1⟩).getD q Pt.zero = l.getD q Pt.zero from fun q hq => by
                rw [← Hsame.out q (by omega), List.getD_eq_getElem?_getD, List.getElem?_set_ne (by omega), List.getD_eq_getElem?_getD])
              rw [hb] at heq
              clear hsucc heqi hb hne
              go_wp2_with fail
              go_quiet (fail)
              go_wp2_with fail
              go_roundw
              case rel => exact ⟨m + 1, k2 + 1, L.set m ⟨u0, u1⟩, by go_num, by go_num, by omega, by omega, by omega, by rw [List.length_set]; exact HLl.out, Hs2.out, Hsm2.out, HSet.out _ ⟨u0, u1⟩, Fr.setCells g [.int .i64 u0, .int .i64 u1] (off + m * 2) _ (HF.out.drewN _) (.inl rfl)⟩
              case measure => simp [intOf]; omega
            · have hxy : (⟨u0, u1⟩ : Pt) = ⟨v0, v1⟩ := heqi.1 hb
              rw [if_pos hxy.symm] at hsucc
              have Hs2 := hid (show compP (l.take (k + (k2 + 1))) = L.take m from hsucc)
              rw [hb] at heq
              clear hsucc heqi hb hxy
              go_wp2_with fail
              go_quiet (fail)
              go_wp2_with fail
              go_roundw
              case rel => exact ⟨m, k2 + 1, L, rfl, by go_num, by omega, by omega, by omega, HLl.out, Hs2.out, fun q hq => Hsame.out q (by omega), HOw.out.drewN _, HF.out.drewN _⟩
              case measure => simp [intOf]; omega
          · have hend : k + k2 = l.length := by omega
            rw [hend, List.take_length] at Hcm
            obtain ⟨cur, hB, hcur⟩ := hOw.blk (by omega)
            obtain ⟨zs, hzs⟩ : ∃ zs, (Builtin.zeroCells Pt.zero.val.cells (l.length - m)).toList = zs := ⟨_, rfl⟩
            have hzl : zs.length = (l.length - m) * 2 := by rw [← hzs, Array.length_toList, size_zeroCells]; rfl
            have hz1 : ∀ u ∈ zs, u.oneCell' = true := by
              rw [← hzs]
              exact zeros_one (z := Pt.zero.val.cells) (by intro k hk; match k, hk with | 0, _ | 1, _ => rfl) (l.length - m)
            have Hzs := hid hzs
            have Hzl := hid hzl
            have Hz1 := hid hz1
            have HB := hid hB
            have Hcur := hid (show off + m * 2 + (l.length - m) * 2 ≤ cur.size by omega)
            have HOw := hid hOw
            have hk2n : ¬ (k2 : Int) < ((l.length - k : Nat) : Int) := by omega
            have hmL : (m : Int) ≤ (l.length : Int) := by omega
            have hmc : m ≤ cap := by omega
            have hcm' : ¬ cap = m := by omega
            clear hzs hzl hz1 hB hcur hOw hLl
            go_wp2_with ((with_reducible refine wpList_clear _ g (off + m * 2) (l.length - m) (cap - m) 2 16 cur 44 23 Pt.zero.val zs Hzs.out HB.out Hcur.out Tryz.underlying23 infoPt rfl Hz1.out rfl _ rfl rfl ?_))
            go_wp2_with fail
            go_ret
            refine ⟨m, rfl, ?_, Fr.setCells g _ _ _ HF.out (.inl rfl)⟩
            rw [Hcm.out]
            have htl : (L.take m).length = m := by rw [List.length_take, HLl.out]; omega
            exact (HOw.out.take (k := m) (by rw [HLl.out]; omega)).far (by rw [htl]; exact Nat.le_refl _) (by rw [Hzl.out]; omega)
    · obtain rfl : k = l.length := by omega
      rw [List.take_length] at Hc
      clear hc hbr hOk
      go_wp2_with fail
      go_ret
      exact ⟨l.length, rfl, by rw [Hc.out]; exact HO.out.belowS Hbr.out, Fr.ofB Hbr.out⟩
end Go.Proofs.YtepddjfbkjplfaaGreatDoor
