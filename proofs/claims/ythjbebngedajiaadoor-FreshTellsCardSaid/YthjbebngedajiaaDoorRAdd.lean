/-
  CONTRACT of the reference mereref1.Add, where the key is not there. CONDITIONS: none.
-/
import Derived.Test.YthjbebngedajiaaDoorRAddP
import Derived.Test.YthjbebngedajiaaDoorEKit
namespace Go.Proofs.YthjbebngedajiaaDoor
open Go.RowKit
open Go.ChangeShapes Go.WideShapes Go.ChangeAt

set_option maxHeartbeats 8000000 in
set_option maxRecDepth 100000 in
theorem radd_no (s : SlV E) (x0 x1 x2 : Int) (x3 : Bool) (x4 : ByteArray) (w : World) (hs : EsAt w s) (hn8 : s.xs.length ≤ 8) (hno : (rget s.xs x0).2 = false) :
    Calls Tryd.prog 31 #[.slice s.A s.xs.length s.c, .agg #[.int .i64 x0, .int .i64 x1, .int .i64 x2, .bool x3, .string x4]] w (RARes w (rgo ⟨x0, x1, x2, x3, x4⟩ false s.xs, 0)) := by
  have HG := hid (fun W (hW : Below w.heap.size w W) => rget_any s x0 W (hs.stays hW).entries)
  have HB := hid (Blk.new w 26 #[.int .i64 x0, .int .i64 x1, .int .i64 x2, .bool x3, .string x4])
  generalize hg1 : rget s.xs x0 = G at *
  obtain ⟨⟨y0, y1, y2, y3, y4⟩, gb⟩ := G
  simp only at hno
  subst hno
  generalize hR : rgo ⟨x0, x1, x2, x3, x4⟩ false s.xs = R
  have HR := hid hR
  clear hR hg1
  go_enter Tryd.func31, Tryd.ntmps31
  go_wp2_with fail
  refine (HG.out _ (by (repeat (first | with_reducible exact Below.refl _ _ | with_reducible assumption | (with_reducible refine Below.drew ?_) | (with_reducible refine Below.manyDrew ?_ _) | ((with_reducible refine Below.alloc ?_ ?_ _); rotate_left; (focus (first | omega | (dsimp only; omega) | (simp; done) | (simp; omega)))) | ((with_reducible refine Below.setCell ?_ ?_ _); rotate_left; (focus (first | omega | (dsimp only; omega) | (simp; done) | (simp; omega)))) | ((with_reducible refine Below.step ?_ (by assumption) ?_); rotate_left; (focus (first | omega | (dsimp only; omega) | (simp; done) | (simp; omega)))))))).mono ?_
  unfold E.val
  rintro e w1 ⟨rfl, hb1⟩
  have hX1 := HB.out.belowS hb1
  have hz1 := hb1.size
  rw [World.size_alloc] at hz1
  have Hb1 := hid (show Below w.heap.size w w1 by (repeat (first | with_reducible exact Below.refl _ _ | with_reducible assumption | (with_reducible refine Below.drew ?_) | (with_reducible refine Below.manyDrew ?_ _) | ((with_reducible refine Below.alloc ?_ ?_ _); rotate_left; (focus (first | omega | (dsimp only; omega) | (simp; done) | (simp; omega)))) | ((with_reducible refine Below.setCell ?_ ?_ _); rotate_left; (focus (first | omega | (dsimp only; omega) | (simp; done) | (simp; omega)))) | ((with_reducible refine Below.step ?_ (by assumption) ?_); rotate_left; (focus (first | omega | (dsimp only; omega) | (simp; done) | (simp; omega)))))))
  have HX1 := hid hX1
  clear hb1 hX1
  go_wp2_with fail
  go_loopw [9, 10, 11] (fun u pv i wr => ∃ (k : Nat) (l' : List E) (p : Bool), k ≤ s.xs.length ∧ i = .int .i64 k ∧ pv = .bool p ∧ (p = false → l'.length ≤ k) ∧ l'.length ≤ k + 1 ∧ l' ++ rgo ⟨x0, x1, x2, x3, x4⟩ p (s.xs.drop k) = R ∧ Ow E.cells 5 (w.heap.size + 1) 26 wr u l' ∧ Blk wr w.heap.size 26 #[.int .i64 x0, .int .i64 x1, .int .i64 x2, .bool x3, .string x4] ∧ Below w.heap.size w wr) (fun _ _ i _ => s.xs.length - (intOf i).toNat)
  case atStart => exact ⟨0, [], false, Nat.zero_le _, rfl, rfl, by simp, by simp, HR.out, Ow.nil _ _ _ _ _, HX1.out.belowS (by (repeat (first | with_reducible exact Below.refl _ _ | with_reducible assumption | (with_reducible refine Below.drew ?_) | (with_reducible refine Below.manyDrew ?_ _) | ((with_reducible refine Below.alloc ?_ ?_ _); rotate_left; (focus (first | omega | (dsimp only; omega) | (simp; done) | (simp; omega)))) | ((with_reducible refine Below.setCell ?_ ?_ _); rotate_left; (focus (first | omega | (dsimp only; omega) | (simp; done) | (simp; omega)))) | ((with_reducible refine Below.step ?_ (by assumption) ?_); rotate_left; (focus (first | omega | (dsimp only; omega) | (simp; done) | (simp; omega))))))), by have hb1 := Hb1.out; (repeat (first | with_reducible exact Below.refl _ _ | with_reducible assumption | (with_reducible refine Below.drew ?_) | (with_reducible refine Below.manyDrew ?_ _) | ((with_reducible refine Below.alloc ?_ ?_ _); rotate_left; (focus (first | omega | (dsimp only; omega) | (simp; done) | (simp; omega)))) | ((with_reducible refine Below.setCell ?_ ?_ _); rotate_left; (focus (first | omega | (dsimp only; omega) | (simp; done) | (simp; omega)))) | ((with_reducible refine Below.step ?_ (by assumption) ?_); rotate_left; (focus (first | omega | (dsimp only; omega) | (simp; done) | (simp; omega))))))⟩
  case round =>
    obtain ⟨k, l', p, hk, rfl, rfl, hpl, hll, hRk, hOw, hB, hb⟩ := hrel
    have hz0 := hb.size
    have hzB := hB.lt
    have HO := hid hOw
    have HBx := hid hB
    have HGe := hid hOw.ge
    have c0 := hB.cell 0
    have c1 := hB.cell 1
    have c2 := hB.cell 2
    have c3 := hB.cell 3
    have c4 := hB.cell 4
    have Hbb := hid hb
    clear hB hOw
    by_cases hlt : k < s.xs.length
    · obtain ⟨g, off, hA, hgl, hcells⟩ := hs.row (by omega)
      have HKs := hid (fun W (hW : Below w.heap.size w W) => (hcells k hlt).stays hW hgl)
      have hgr : g < wr.heap.size := by omega
      rw [drop_consD E.zero hlt, rgo] at hRk
      generalize s.xs.getD k E.zero = y at *
      obtain ⟨y0, y1, y2, y3, y4⟩ := y
      obtain ⟨k0, k1, k2, k3, k4⟩ := HKs.out wr hb
      simp only at k0 k1 k2 k3 k4 hRk
      rw [hA]
      clear hA hcells
      cases p with
      | true =>
        rw [if_pos rfl] at hRk
        by_cases heq : y0 = x0
        · rw [if_pos heq] at hRk
          have HRk2 := hid hRk
          clear hRk
          go_wp2_with fail
          go_quiet (fail)
          go_wp2_with fail
          go_quiet (fail)
          go_wp2_with fail
          go_roundw
          case rel => exact ⟨k + 1, l', true, by omega, by go_num, rfl, (fun h => by cases h), by omega, HRk2.out, HO.out.belowS (by (repeat (first | with_reducible exact Below.refl _ _ | with_reducible assumption | (with_reducible refine Below.drew ?_) | (with_reducible refine Below.manyDrew ?_ _) | ((with_reducible refine Below.alloc ?_ ?_ _); rotate_left; (focus (first | omega | (dsimp only; omega) | (simp; done) | (simp; omega)))) | ((with_reducible refine Below.setCell ?_ ?_ _); rotate_left; (focus (first | omega | (dsimp only; omega) | (simp; done) | (simp; omega)))) | ((with_reducible refine Below.step ?_ (by assumption) ?_); rotate_left; (focus (first | omega | (dsimp only; omega) | (simp; done) | (simp; omega))))))), HBx.out.belowS (by (repeat (first | with_reducible exact Below.refl _ _ | with_reducible assumption | (with_reducible refine Below.drew ?_) | (with_reducible refine Below.manyDrew ?_ _) | ((with_reducible refine Below.alloc ?_ ?_ _); rotate_left; (focus (first | omega | (dsimp only; omega) | (simp; done) | (simp; omega)))) | ((with_reducible refine Below.setCell ?_ ?_ _); rotate_left; (focus (first | omega | (dsimp only; omega) | (simp; done) | (simp; omega)))) | ((with_reducible refine Below.step ?_ (by assumption) ?_); rotate_left; (focus (first | omega | (dsimp only; omega) | (simp; done) | (simp; omega))))))), by (repeat (first | with_reducible exact Below.refl _ _ | with_reducible assumption | (with_reducible refine Below.drew ?_) | (with_reducible refine Below.manyDrew ?_ _) | ((with_reducible refine Below.alloc ?_ ?_ _); rotate_left; (focus (first | omega | (dsimp only; omega) | (simp; done) | (simp; omega)))) | ((with_reducible refine Below.setCell ?_ ?_ _); rotate_left; (focus (first | omega | (dsimp only; omega) | (simp; done) | (simp; omega)))) | ((with_reducible refine Below.step ?_ (by assumption) ?_); rotate_left; (focus (first | omega | (dsimp only; omega) | (simp; done) | (simp; omega))))))⟩
          case measure => simp [intOf]; omega
        · rw [if_neg heq] at hRk
          have HRk2 := hid hRk
          clear hRk
          go_wp2_with fail
          go_quiet (fail)
          go_wp2_with fail
          go_quiet (fail)
          go_wp2_with (at_builtin; refine appE _ (w.heap.size + 1) _ l' y0 y1 y2 y3 y4 (HO.out.belowS (by (repeat (first | with_reducible exact Below.refl _ _ | with_reducible assumption | (with_reducible refine Below.drew ?_) | (with_reducible refine Below.manyDrew ?_ _) | ((with_reducible refine Below.alloc ?_ ?_ _); rotate_left; (focus (first | omega | (dsimp only; omega) | (simp; done) | (simp; omega)))) | ((with_reducible refine Below.setCell ?_ ?_ _); rotate_left; (focus (first | omega | (dsimp only; omega) | (simp; done) | (simp; omega)))) | ((with_reducible refine Below.step ?_ (by assumption) ?_); rotate_left; (focus (first | omega | (dsimp only; omega) | (simp; done) | (simp; omega)))))))) rfl _ _ rfl rfl rfl ?_ ?_ ?_ ?_)
          all_goals try (first | omega | (simp; done) | (simp; omega))
          intro v8 w8 h8 f8 o8
          have hB8 := (HBx.out.belowS (w' := _) (by (repeat (first | with_reducible exact Below.refl _ _ | with_reducible assumption | (with_reducible refine Below.drew ?_) | (with_reducible refine Below.manyDrew ?_ _) | ((with_reducible refine Below.alloc ?_ ?_ _); rotate_left; (focus (first | omega | (dsimp only; omega) | (simp; done) | (simp; omega)))) | ((with_reducible refine Below.setCell ?_ ?_ _); rotate_left; (focus (first | omega | (dsimp only; omega) | (simp; done) | (simp; omega)))) | ((with_reducible refine Below.step ?_ (by assumption) ?_); rotate_left; (focus (first | omega | (dsimp only; omega) | (simp; done) | (simp; omega)))))))).fr f8 (fun h => by have := HGe.out _ h; omega)
          have hb8 := (show Below w.heap.size w _ by (repeat (first | with_reducible exact Below.refl _ _ | with_reducible assumption | (with_reducible refine Below.drew ?_) | (with_reducible refine Below.manyDrew ?_ _) | ((with_reducible refine Below.alloc ?_ ?_ _); rotate_left; (focus (first | omega | (dsimp only; omega) | (simp; done) | (simp; omega)))) | ((with_reducible refine Below.setCell ?_ ?_ _); rotate_left; (focus (first | omega | (dsimp only; omega) | (simp; done) | (simp; omega)))) | ((with_reducible refine Below.step ?_ (by assumption) ?_); rotate_left; (focus (first | omega | (dsimp only; omega) | (simp; done) | (simp; omega))))))).trans (f8.below0 (B := w.heap.size) (by simp; omega) (fun i hi => by have := HGe.out _ hi; omega))
          go_wp2_with fail
          go_roundw
          case rel => exact ⟨k + 1, l' ++ [⟨y0, y1, y2, y3, y4⟩], true, by omega, by go_num, rfl, (fun h => by cases h), by simp; omega, by rw [List.append_assoc]; exact HRk2.out, h8, hB8, hb8⟩
          case measure => simp [intOf]; omega
      | false =>
        rw [if_neg (by decide)] at hRk
        have hlk := hpl rfl
        by_cases hle : x0 ≤ y0
        · rw [if_pos hle] at hRk
          by_cases heq : y0 = x0
          · rw [if_pos heq] at hRk
            have HRk2 := hid hRk
            clear hRk
            go_wp2_with fail
            go_quiet (fail)
            go_wp2_with (at_builtin; refine appE _ (w.heap.size + 1) _ l' x0 x1 x2 x3 x4 (HO.out.belowS (by (repeat (first | with_reducible exact Below.refl _ _ | with_reducible assumption | (with_reducible refine Below.drew ?_) | (with_reducible refine Below.manyDrew ?_ _) | ((with_reducible refine Below.alloc ?_ ?_ _); rotate_left; (focus (first | omega | (dsimp only; omega) | (simp; done) | (simp; omega)))) | ((with_reducible refine Below.setCell ?_ ?_ _); rotate_left; (focus (first | omega | (dsimp only; omega) | (simp; done) | (simp; omega)))) | ((with_reducible refine Below.step ?_ (by assumption) ?_); rotate_left; (focus (first | omega | (dsimp only; omega) | (simp; done) | (simp; omega)))))))) rfl _ _ rfl rfl rfl ?_ ?_ ?_ ?_)
            all_goals try (first | omega | (simp; done) | (simp; omega))
            intro v8 w8 h8 f8 o8
            have hB8 := (HBx.out.belowS (w' := _) (by (repeat (first | with_reducible exact Below.refl _ _ | with_reducible assumption | (with_reducible refine Below.drew ?_) | (with_reducible refine Below.manyDrew ?_ _) | ((with_reducible refine Below.alloc ?_ ?_ _); rotate_left; (focus (first | omega | (dsimp only; omega) | (simp; done) | (simp; omega)))) | ((with_reducible refine Below.setCell ?_ ?_ _); rotate_left; (focus (first | omega | (dsimp only; omega) | (simp; done) | (simp; omega)))) | ((with_reducible refine Below.step ?_ (by assumption) ?_); rotate_left; (focus (first | omega | (dsimp only; omega) | (simp; done) | (simp; omega)))))))).fr f8 (fun h => by have := HGe.out _ h; omega)
            have hb8 := (show Below w.heap.size w _ by (repeat (first | with_reducible exact Below.refl _ _ | with_reducible assumption | (with_reducible refine Below.drew ?_) | (with_reducible refine Below.manyDrew ?_ _) | ((with_reducible refine Below.alloc ?_ ?_ _); rotate_left; (focus (first | omega | (dsimp only; omega) | (simp; done) | (simp; omega)))) | ((with_reducible refine Below.setCell ?_ ?_ _); rotate_left; (focus (first | omega | (dsimp only; omega) | (simp; done) | (simp; omega)))) | ((with_reducible refine Below.step ?_ (by assumption) ?_); rotate_left; (focus (first | omega | (dsimp only; omega) | (simp; done) | (simp; omega))))))).trans (f8.below0 (B := w.heap.size) (by simp; omega) (fun i hi => by have := HGe.out _ hi; omega))
            have hz8 := hb8.size
            have hl8 := hB8.lt
            obtain ⟨m0, m1, m2, m3, m4⟩ := HKs.out w8 hb8
            have d0 : w8.cell? ⟨w.heap.size, 0, none⟩ = some (.int .i64 x0) := hB8.cell 0
            have H8 := hid h8
            have HB8 := hid hB8
            clear h8 hB8 f8
            go_wp2_with fail
            go_quiet (fail)
            go_wp2_with fail
            go_roundw
            case rel => exact ⟨k + 1, l' ++ [⟨x0, x1, x2, x3, x4⟩], true, by omega, by go_num, rfl, (fun h => by cases h), by simp; omega, by rw [List.append_assoc]; exact HRk2.out, H8.out.belowS (by (repeat (first | with_reducible exact Below.refl _ _ | with_reducible assumption | (with_reducible refine Below.drew ?_) | (with_reducible refine Below.manyDrew ?_ _) | ((with_reducible refine Below.alloc ?_ ?_ _); rotate_left; (focus (first | omega | (dsimp only; omega) | (simp; done) | (simp; omega)))) | ((with_reducible refine Below.setCell ?_ ?_ _); rotate_left; (focus (first | omega | (dsimp only; omega) | (simp; done) | (simp; omega)))) | ((with_reducible refine Below.step ?_ (by assumption) ?_); rotate_left; (focus (first | omega | (dsimp only; omega) | (simp; done) | (simp; omega))))))), HB8.out.belowS (by (repeat (first | with_reducible exact Below.refl _ _ | with_reducible assumption | (with_reducible refine Below.drew ?_) | (with_reducible refine Below.manyDrew ?_ _) | ((with_reducible refine Below.alloc ?_ ?_ _); rotate_left; (focus (first | omega | (dsimp only; omega) | (simp; done) | (simp; omega)))) | ((with_reducible refine Below.setCell ?_ ?_ _); rotate_left; (focus (first | omega | (dsimp only; omega) | (simp; done) | (simp; omega)))) | ((with_reducible refine Below.step ?_ (by assumption) ?_); rotate_left; (focus (first | omega | (dsimp only; omega) | (simp; done) | (simp; omega))))))), by (repeat (first | with_reducible exact Below.refl _ _ | with_reducible assumption | (with_reducible refine Below.drew ?_) | (with_reducible refine Below.manyDrew ?_ _) | ((with_reducible refine Below.alloc ?_ ?_ _); rotate_left; (focus (first | omega | (dsimp only; omega) | (simp; done) | (simp; omega)))) | ((with_reducible refine Below.setCell ?_ ?_ _); rotate_left; (focus (first | omega | (dsimp only; omega) | (simp; done) | (simp; omega)))) | ((with_reducible refine Below.step ?_ (by assumption) ?_); rotate_left; (focus (first | omega | (dsimp only; omega) | (simp; done) | (simp; omega))))))⟩
            case measure => simp [intOf]; omega
          · rw [if_neg heq] at hRk
            have HRk2 := hid hRk
            clear hRk
            go_wp2_with fail
            go_quiet (fail)
            go_wp2_with (at_builtin; refine appE _ (w.heap.size + 1) _ l' x0 x1 x2 x3 x4 (HO.out.belowS (by (repeat (first | with_reducible exact Below.refl _ _ | with_reducible assumption | (with_reducible refine Below.drew ?_) | (with_reducible refine Below.manyDrew ?_ _) | ((with_reducible refine Below.alloc ?_ ?_ _); rotate_left; (focus (first | omega | (dsimp only; omega) | (simp; done) | (simp; omega)))) | ((with_reducible refine Below.setCell ?_ ?_ _); rotate_left; (focus (first | omega | (dsimp only; omega) | (simp; done) | (simp; omega)))) | ((with_reducible refine Below.step ?_ (by assumption) ?_); rotate_left; (focus (first | omega | (dsimp only; omega) | (simp; done) | (simp; omega)))))))) rfl _ _ rfl rfl rfl ?_ ?_ ?_ ?_)
            all_goals try (first | omega | (simp; done) | (simp; omega))
            intro v8 w8 h8 f8 o8
            have hB8 := (HBx.out.belowS (w' := _) (by (repeat (first | with_reducible exact Below.refl _ _ | with_reducible assumption | (with_reducible refine Below.drew ?_) | (with_reducible refine Below.manyDrew ?_ _) | ((with_reducible refine Below.alloc ?_ ?_ _); rotate_left; (focus (first | omega | (dsimp only; omega) | (simp; done) | (simp; omega)))) | ((with_reducible refine Below.setCell ?_ ?_ _); rotate_left; (focus (first | omega | (dsimp only; omega) | (simp; done) | (simp; omega)))) | ((with_reducible refine Below.step ?_ (by assumption) ?_); rotate_left; (focus (first | omega | (dsimp only; omega) | (simp; done) | (simp; omega)))))))).fr f8 (fun h => by have := HGe.out _ h; omega)
            have hb8 := (show Below w.heap.size w _ by (repeat (first | with_reducible exact Below.refl _ _ | with_reducible assumption | (with_reducible refine Below.drew ?_) | (with_reducible refine Below.manyDrew ?_ _) | ((with_reducible refine Below.alloc ?_ ?_ _); rotate_left; (focus (first | omega | (dsimp only; omega) | (simp; done) | (simp; omega)))) | ((with_reducible refine Below.setCell ?_ ?_ _); rotate_left; (focus (first | omega | (dsimp only; omega) | (simp; done) | (simp; omega)))) | ((with_reducible refine Below.step ?_ (by assumption) ?_); rotate_left; (focus (first | omega | (dsimp only; omega) | (simp; done) | (simp; omega))))))).trans (f8.below0 (B := w.heap.size) (by simp; omega) (fun i hi => by have := HGe.out _ hi; omega))
            have hz8 := hb8.size
            have hl8 := hB8.lt
            obtain ⟨m0, m1, m2, m3, m4⟩ := HKs.out w8 hb8
            simp only at m0 m1 m2 m3 m4
            have d0 : w8.cell? ⟨w.heap.size, 0, none⟩ = some (.int .i64 x0) := hB8.cell 0
            have H8 := hid h8
            have HB8 := hid hB8
            have HGe8 := hid h8.ge
            clear h8 hB8 f8
            go_wp2_with fail
            go_quiet (fail)
            go_wp2_with (at_builtin; refine appE _ (w.heap.size + 1) _ (l' ++ [⟨x0, x1, x2, x3, x4⟩]) y0 y1 y2 y3 y4 (H8.out.belowS (by (repeat (first | with_reducible exact Below.refl _ _ | with_reducible assumption | (with_reducible refine Below.drew ?_) | (with_reducible refine Below.manyDrew ?_ _) | ((with_reducible refine Below.alloc ?_ ?_ _); rotate_left; (focus (first | omega | (dsimp only; omega) | (simp; done) | (simp; omega)))) | ((with_reducible refine Below.setCell ?_ ?_ _); rotate_left; (focus (first | omega | (dsimp only; omega) | (simp; done) | (simp; omega)))) | ((with_reducible refine Below.step ?_ (by assumption) ?_); rotate_left; (focus (first | omega | (dsimp only; omega) | (simp; done) | (simp; omega)))))))) rfl _ _ rfl rfl rfl ?_ ?_ ?_ ?_)
            all_goals try (first | omega | (simp; done) | (simp; omega))
            intro v9 w9 h9 f9 o9
            have hB9 := (HB8.out.belowS (w' := _) (by (repeat (first | with_reducible exact Below.refl _ _ | with_reducible assumption | (with_reducible refine Below.drew ?_) | (with_reducible refine Below.manyDrew ?_ _) | ((with_reducible refine Below.alloc ?_ ?_ _); rotate_left; (focus (first | omega | (dsimp only; omega) | (simp; done) | (simp; omega)))) | ((with_reducible refine Below.setCell ?_ ?_ _); rotate_left; (focus (first | omega | (dsimp only; omega) | (simp; done) | (simp; omega)))) | ((with_reducible refine Below.step ?_ (by assumption) ?_); rotate_left; (focus (first | omega | (dsimp only; omega) | (simp; done) | (simp; omega)))))))).fr f9 (fun h => by have := HGe8.out _ h; omega)
            have hb9 := (show Below w.heap.size w _ by (repeat (first | with_reducible exact Below.refl _ _ | with_reducible assumption | (with_reducible refine Below.drew ?_) | (with_reducible refine Below.manyDrew ?_ _) | ((with_reducible refine Below.alloc ?_ ?_ _); rotate_left; (focus (first | omega | (dsimp only; omega) | (simp; done) | (simp; omega)))) | ((with_reducible refine Below.setCell ?_ ?_ _); rotate_left; (focus (first | omega | (dsimp only; omega) | (simp; done) | (simp; omega)))) | ((with_reducible refine Below.step ?_ (by assumption) ?_); rotate_left; (focus (first | omega | (dsimp only; omega) | (simp; done) | (simp; omega))))))).trans (f9.below0 (B := w.heap.size) (by simp; omega) (fun i hi => by have := HGe8.out _ hi; omega))
            go_wp2_with fail
            go_roundw
            case rel => exact ⟨k + 1, l' ++ [⟨x0, x1, x2, x3, x4⟩, ⟨y0, y1, y2, y3, y4⟩], true, by omega, by go_num, rfl, (fun h => by cases h), by simp; omega, by rw [List.append_assoc]; exact HRk2.out, h9, hB9, hb9⟩
            case measure => simp [intOf]; omega
        · rw [if_neg hle] at hRk
          have heq : ¬ y0 = x0 := by omega
          have HRk2 := hid hRk
          clear hRk
          go_wp2_with fail
          go_quiet (fail)
          go_wp2_with fail
          go_quiet (fail)
          go_wp2_with (at_builtin; refine appE _ (w.heap.size + 1) _ l' y0 y1 y2 y3 y4 (HO.out.belowS (by (repeat (first | with_reducible exact Below.refl _ _ | with_reducible assumption | (with_reducible refine Below.drew ?_) | (with_reducible refine Below.manyDrew ?_ _) | ((with_reducible refine Below.alloc ?_ ?_ _); rotate_left; (focus (first | omega | (dsimp only; omega) | (simp; done) | (simp; omega)))) | ((with_reducible refine Below.setCell ?_ ?_ _); rotate_left; (focus (first | omega | (dsimp only; omega) | (simp; done) | (simp; omega)))) | ((with_reducible refine Below.step ?_ (by assumption) ?_); rotate_left; (focus (first | omega | (dsimp only; omega) | (simp; done) | (simp; omega)))))))) rfl _ _ rfl rfl rfl ?_ ?_ ?_ ?_)
          all_goals try (first | omega | (simp; done) | (simp; omega))
          intro v8 w8 h8 f8 o8
          have hB8 := (HBx.out.belowS (w' := _) (by (repeat (first | with_reducible exact Below.refl _ _ | with_reducible assumption | (with_reducible refine Below.drew ?_) | (with_reducible refine Below.manyDrew ?_ _) | ((with_reducible refine Below.alloc ?_ ?_ _); rotate_left; (focus (first | omega | (dsimp only; omega) | (simp; done) | (simp; omega)))) | ((with_reducible refine Below.setCell ?_ ?_ _); rotate_left; (focus (first | omega | (dsimp only; omega) | (simp; done) | (simp; omega)))) | ((with_reducible refine Below.step ?_ (by assumption) ?_); rotate_left; (focus (first | omega | (dsimp only; omega) | (simp; done) | (simp; omega)))))))).fr f8 (fun h => by have := HGe.out _ h; omega)
          have hb8 := (show Below w.heap.size w _ by (repeat (first | with_reducible exact Below.refl _ _ | with_reducible assumption | (with_reducible refine Below.drew ?_) | (with_reducible refine Below.manyDrew ?_ _) | ((with_reducible refine Below.alloc ?_ ?_ _); rotate_left; (focus (first | omega | (dsimp only; omega) | (simp; done) | (simp; omega)))) | ((with_reducible refine Below.setCell ?_ ?_ _); rotate_left; (focus (first | omega | (dsimp only; omega) | (simp; done) | (simp; omega)))) | ((with_reducible refine Below.step ?_ (by assumption) ?_); rotate_left; (focus (first | omega | (dsimp only; omega) | (simp; done) | (simp; omega))))))).trans (f8.below0 (B := w.heap.size) (by simp; omega) (fun i hi => by have := HGe.out _ hi; omega))
          go_wp2_with fail
          go_roundw
          case rel => exact ⟨k + 1, l' ++ [⟨y0, y1, y2, y3, y4⟩], false, by omega, by go_num, rfl, (fun _ => by simp; omega), by simp; omega, by rw [List.append_assoc]; exact HRk2.out, h8, hB8, hb8⟩
          case measure => simp [intOf]; omega
    · obtain rfl : k = s.xs.length := by omega
      rw [List.drop_length, rgo] at hRk
      cases p with
      | true =>
        rw [if_pos rfl, List.append_nil] at hRk
        subst hRk
        go_wp2_with fail
        go_ret2
        exact ⟨_, rfl, HO.out.mono (by omega), Hbb.out⟩
      | false =>
        rw [if_neg (by decide)] at hRk
        subst hRk
        go_wp2_with (at_builtin; refine appE _ (w.heap.size + 1) _ l' x0 x1 x2 x3 x4 HO.out rfl _ _ rfl rfl rfl ?_ ?_ ?_ ?_)
        all_goals try (first | omega | (simp; done) | (simp; omega))
        intro v8 w8 h8 f8 o8
        have hb8 := Hbb.out.trans (f8.below0 (B := w.heap.size) (by omega) (fun i hi => by have := HGe.out _ hi; omega))
        go_wp2_with fail
        go_ret2
        exact ⟨_, rfl, h8.mono (by omega), hb8⟩
end Go.Proofs.YthjbebngedajiaaDoor
