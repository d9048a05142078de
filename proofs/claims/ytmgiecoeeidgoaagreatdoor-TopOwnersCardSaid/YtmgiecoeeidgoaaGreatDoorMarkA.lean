/-
  CONTRACT of tomb.Mark. CONDITIONS: none.
-/
import Derived.Test.YtmgiecoeeidgoaaGreatDoorTomb
namespace Go.Proofs.YtmgiecoeeidgoaaGreatDoor
open Go.RowKit
open Go.ChangeShapes Go.WideShapes Go.ChangeAt

def markG (k : Int) : Int → List (SlV E) → Int
  | o, [] => o
  | o, c :: r => if hasK k c.xs = true then markG k (min o (c.xs.getD (plc k c.xs) E.zero).asof) r else 0
def markR (l : List (SlV E)) (k : Int) : Int × Int := if chkTK l k = 0 then (markG k 1000 l, 0) else (0, chkTK l k)

set_option maxHeartbeats 2000000 in
theorem mark_any (s : SlV (SlV E)) (k : Int) (w : World) (hs : CachesAt w s) :
    Calls Tryz.prog 17 #[.slice s.A s.xs.length s.c, .int .i64 k] w fun e w' => e = .returned (.tuple #[.int .i64 (markR s.xs k).1, errV (markR s.xs k).2]) ∧ Below w.heap.size w w' := by
  have HT := hid (fun W (hW : Below w.heap.size w W) => tkey_any s k W (hs.stays hW))
  by_cases hc : chkTK s.xs k = 0
  · rw [markR, if_pos hc]
    obtain ⟨⟨h1, h6⟩, hch, hk⟩ := chkTK_ok hc
    rw [hc, errV_zero] at HT
    rw [errV_zero]
    have Hk := hid hk
    have Hch := hid hch
    generalize hR : markG k 1000 s.xs = R
    have HR := hid hR
    clear hc hk hch hR
    go_enter Tryz.func17, Tryz.ntmps17
    go_wp2_with fail
    refine (HT.out _ (by (repeat (first | with_reducible exact Below.refl _ _ | with_reducible assumption | (with_reducible refine Below.drew ?_) | (with_reducible refine Below.manyDrew ?_ _) | ((with_reducible refine Below.alloc ?_ ?_ _); rotate_left; (focus (first | omega | (dsimp only; omega) | (simp; done) | (simp; omega)))) | ((with_reducible refine Below.setCell ?_ ?_ _); rotate_left; (focus (first | omega | (dsimp only; omega) | (simp; done) | (simp; omega)))) | ((with_reducible refine Below.step ?_ (by assumption) ?_); rotate_left; (focus (first | omega | (dsimp only; omega) | (simp; done) | (simp; omega)))))))).mono ?_
    rintro e w1 ⟨rfl, hb1⟩
    go_wp2_with fail
    go_loopw [7, 20] (fun o i wr => ∃ (j : Nat) (n : Int), j ≤ s.xs.length ∧ o = .int .i64 n ∧ i = .int .i64 j ∧ markG k n (s.xs.drop j) = R ∧ Below w.heap.size w wr) (fun _ i _ => s.xs.length - (intOf i).toNat)
    case atStart => exact ⟨0, 1000, Nat.zero_le _, rfl, rfl, HR.out, hb1⟩
    case round =>
      obtain ⟨j, n, hj, rfl, rfl, hkr, hbr⟩ := hrel
      have hz0 := hbr.size
      by_cases hlt : j < s.xs.length
      · obtain ⟨b, off, hA, hb, hcells⟩ := hs.row (by omega)
        have hcell := hcells j hlt
        have hin := (hs.each j hlt).stays hbr
        rw [← hbr.cell (p := ⟨b, off + j, none⟩) hb] at hcell
        have hd : s.xs.drop j = s.xs[j] :: s.xs.drop (j + 1) := List.drop_eq_getElem_cons hlt
        rw [hd, markG] at hkr
        obtain ⟨hn, _, hS, hK⟩ := chkC_ok (Hch.out _ (List.getElem_mem hlt))
        generalize s.xs[j] = c at *
        have HP := hid (fun W (hW : Below wr.heap.size wr W) => place_any k c W (hin.stays hW) hS hK (keyB_true.1 Hk.out) hn)
        rcases (show hasK k c.xs = false ∨ hasK k c.xs = true by cases hasK k c.xs <;> simp) with hh | hh
        · rw [hh] at HP
          rw [if_neg (by simp [hh])] at hkr
          have Hkr := hid hkr
          rw [hA]
          clear hA hcells hd hkr hS hK hh
          go_wp2_with fail
          refine (HP.out _ (Below.refl _ _)).mono ?_
          rintro e w2 ⟨rfl, hb2⟩
          go_wp2_with fail
          refine bodyPost_ret (v := .tuple #[.int .i64 0, .nilIface]) ?_ rfl ⟨by rw [← Hkr.out], by (repeat (first | with_reducible exact Below.refl _ _ | with_reducible assumption | (with_reducible refine Below.drew ?_) | (with_reducible refine Below.manyDrew ?_ _) | ((with_reducible refine Below.alloc ?_ ?_ _); rotate_left; (focus (first | omega | (dsimp only; omega) | (simp; done) | (simp; omega)))) | ((with_reducible refine Below.setCell ?_ ?_ _); rotate_left; (focus (first | omega | (dsimp only; omega) | (simp; done) | (simp; omega)))) | ((with_reducible refine Below.step ?_ (by assumption) ?_); rotate_left; (focus (first | omega | (dsimp only; omega) | (simp; done) | (simp; omega))))))⟩
          simp [results, Tryz.results17, go_sem]
        · rw [hh] at HP
          rw [if_pos hh] at hkr
          have hp : plc k c.xs < c.xs.length := by
            unfold hasK at hh
            simp at hh
            exact hh.1
          obtain ⟨g, off2, hA2, hg, hcells2⟩ := hin.get (by omega)
          have hE := (hcells2 _ hp).c2
          have hcl := hin.len
          unfold maxLen at hcl
          generalize c.xs.getD (plc k c.xs) E.zero = x at *
          have Hkr := hid hkr
          have HA2 := hid hA2
          rw [hA]
          clear hA hcells hd hkr hS hK hh hcells2 hA2
          generalize plc k c.xs = q at *
          go_wp2_with fail
          refine (HP.out _ (Below.refl _ _)).mono ?_
          rintro e w2 ⟨rfl, hb2⟩
          have hE2 := (hb2.cell (p := ⟨g, _, none⟩) hg).trans hE
          have hg2 : g < w2.heap.size := Nat.lt_of_lt_of_le hg hb2.size
          rw [HA2.out]
          rw [HA2.out] at hcell
          clear hE
          go_wp2_with fail
          all_goals
            go_roundw
            case rel =>
              refine ⟨j + 1, _, by omega, rfl, by go_num, ?_, by (repeat (first | with_reducible exact Below.refl _ _ | with_reducible assumption | (with_reducible refine Below.drew ?_) | (with_reducible refine Below.manyDrew ?_ _) | ((with_reducible refine Below.alloc ?_ ?_ _); rotate_left; (focus (first | omega | (dsimp only; omega) | (simp; done) | (simp; omega)))) | ((with_reducible refine Below.setCell ?_ ?_ _); rotate_left; (focus (first | omega | (dsimp only; omega) | (simp; done) | (simp; omega)))) | ((with_reducible refine Below.step ?_ (by assumption) ?_); rotate_left; (focus (first | omega | (dsimp only; omega) | (simp; done) | (simp; omega))))))⟩
              refine Eq.trans ?_ Hkr.out
              congr 1
              omega
            case measure => simp [intOf]; omega
      · obtain rfl : j = s.xs.length := by omega
        rw [List.drop_length, markG] at hkr
        have Hkr := hid hkr
        clear hkr
        go_wp2_with fail
        refine bodyPost_ret (v := .tuple #[.int .i64 n, .nilIface]) ?_ rfl ⟨by rw [← Hkr.out], by (repeat (first | with_reducible exact Below.refl _ _ | with_reducible assumption | (with_reducible refine Below.drew ?_) | (with_reducible refine Below.manyDrew ?_ _) | ((with_reducible refine Below.alloc ?_ ?_ _); rotate_left; (focus (first | omega | (dsimp only; omega) | (simp; done) | (simp; omega)))) | ((with_reducible refine Below.setCell ?_ ?_ _); rotate_left; (focus (first | omega | (dsimp only; omega) | (simp; done) | (simp; omega)))) | ((with_reducible refine Below.step ?_ (by assumption) ?_); rotate_left; (focus (first | omega | (dsimp only; omega) | (simp; done) | (simp; omega))))))⟩
        simp [results, Tryz.results17, go_sem]
  · rw [markR, if_neg hc]
    have He := hid (errV_ne hc)
    generalize chkTK s.xs k = en at *
    clear hc
    go_enter Tryz.func17, Tryz.ntmps17
    go_wp2_with fail
    refine (HT.out _ (by (repeat (first | with_reducible exact Below.refl _ _ | with_reducible assumption | (with_reducible refine Below.drew ?_) | (with_reducible refine Below.manyDrew ?_ _) | ((with_reducible refine Below.alloc ?_ ?_ _); rotate_left; (focus (first | omega | (dsimp only; omega) | (simp; done) | (simp; omega)))) | ((with_reducible refine Below.setCell ?_ ?_ _); rotate_left; (focus (first | omega | (dsimp only; omega) | (simp; done) | (simp; omega)))) | ((with_reducible refine Below.step ?_ (by assumption) ?_); rotate_left; (focus (first | omega | (dsimp only; omega) | (simp; done) | (simp; omega)))))))).mono ?_
    rw [He.out]
    rintro e w1 ⟨rfl, hb1⟩
    go_wp2_with fail
    refine bodyPost_ret (v := .tuple #[.int .i64 0, .iface 60 (.int .i64 en)]) ?_ rfl ⟨by rw [He.out], by (repeat (first | with_reducible exact Below.refl _ _ | with_reducible assumption | (with_reducible refine Below.drew ?_) | (with_reducible refine Below.manyDrew ?_ _) | ((with_reducible refine Below.alloc ?_ ?_ _); rotate_left; (focus (first | omega | (dsimp only; omega) | (simp; done) | (simp; omega)))) | ((with_reducible refine Below.setCell ?_ ?_ _); rotate_left; (focus (first | omega | (dsimp only; omega) | (simp; done) | (simp; omega)))) | ((with_reducible refine Below.step ?_ (by assumption) ?_); rotate_left; (focus (first | omega | (dsimp only; omega) | (simp; done) | (simp; omega))))))⟩
    simp [results, Tryz.results17, go_sem]

/-! ### tomb.Sweep, whatever it is asked -/
end Go.Proofs.YtmgiecoeeidgoaaGreatDoor
