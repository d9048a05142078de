/-
  CONTRACTS: ring.check, slices.IndexFunc at ring.first's closure, ring.first, ring.Owner. CONDITIONS: the library's table of the powers of ten reads as it is laid (Tb).
-/
import Derived.Test.YtepddjfbkjplfaaGreatDoorRing4
import Derived.Laws.EntriesVeiled
namespace Go.Proofs.YtepddjfbkjplfaaGreatDoor
open Go.RowKit
open Go.ChangeShapes Go.WideShapes Go.ChangeAt

theorem rgcheck_any (s : SlV Pt) (key : Int) (w : World) (hs : PtsAt w s) :
    Calls Tryz.prog 23 #[.slice s.A s.xs.length s.c, .int .i64 key] w fun e w' => e = .returned (errV (rgE s.xs key)) ∧ Below w.heap.size w w' := by
  have HR := hid (right_any s w hs)
  have HK := hid (keyR_any key)
  clear hs
  rcases hr : rightP s.xs with _ | _
  · rw [hr] at HR
    rw [rgE, hr, if_neg (by decide), errV_ne (show (3 : Int) ≠ 0 by decide)]
    clear hr
    go_enter Tryz.func23, Tryz.ntmps23
    go_wp2_with fail
    refine HR.out.mono ?_
    rintro e w1 ⟨rfl, hb1⟩
    go_wp2_with fail
    go_ret
    exact ⟨rfl, hb1⟩
  · rw [hr] at HR
    rw [rgE, if_pos hr]
    clear hr
    rcases hk : keyB key with _ | _
    · rw [hk] at HK
      rw [if_neg (by decide), errV_ne (show (1 : Int) ≠ 0 by decide)]
      clear hk
      go_enter Tryz.func23, Tryz.ntmps23
      go_wp2_with fail
      refine HR.out.mono ?_
      rintro e w1 ⟨rfl, hb1⟩
      have Hb1 := hid hb1
      clear hb1
      go_wp2_with fail
      refine (HK.out _).mono ?_
      rintro e w2 ⟨rfl, rfl⟩
      go_wp2_with fail
      go_ret
      exact ⟨rfl, Hb1.out⟩
    · rw [hk] at HK
      rw [if_pos rfl, errV_zero]
      clear hk
      go_enter Tryz.func23, Tryz.ntmps23
      go_wp2_with fail
      refine HR.out.mono ?_
      rintro e w1 ⟨rfl, hb1⟩
      have Hb1 := hid hb1
      clear hb1
      go_wp2_with fail
      refine (HK.out _).mono ?_
      rintro e w2 ⟨rfl, rfl⟩
      go_wp2_with fail
      go_ret
      exact ⟨rfl, Hb1.out⟩
/-- the first at or behind a place -/
def idxP (v : Int) : List Pt → Nat → Int
  | [], _ => -1
  | x :: r, k => if v ≤ x.pos then (k : Int) else idxP v r (k + 1)
theorem idxP_cons (v : Int) (x : Pt) (r : List Pt) (k : Nat) : idxP v (x :: r) k = if v ≤ x.pos then (k : Int) else idxP v r (k + 1) := rfl
theorem idxP_in (v : Int) : ∀ (l : List Pt) (k : Nat), idxP v l k = -1 ∨ ((k : Int) ≤ idxP v l k ∧ idxP v l k < ((k + l.length : Nat) : Int))
  | [], k => .inl rfl
  | x :: r, k => by
    rw [idxP_cons, List.length_cons]
    split
    · right; omega
    · rcases idxP_in v r (k + 1) with h | h
      · exact .inl h
      · right; omega
theorem closure_any (bx : Nat) (v : Int) (x0 x1 : Int) (W : World) (hc : W.cell? ⟨bx, 0, none⟩ = some (.int .i64 v)) (hl : bx < W.heap.size) :
    Calls Tryz.prog 40 #[.agg #[.int .i64 x0, .int .i64 x1], .pointer (some ⟨bx, 0, none⟩)] W fun e w' => e = .returned (.bool (decide (v ≤ x0))) ∧ Below W.heap.size W w' := by
  by_cases h : v ≤ x0
  · rw [decide_eq_true h]
    go_enter Tryz.func40, Tryz.ntmps40
    go_wp2_with fail
    go_ret
    exact ⟨rfl, by (repeat (first | with_reducible exact Below.refl _ _ | with_reducible assumption | (with_reducible refine Below.drew ?_) | (with_reducible refine Below.manyDrew ?_ _) | ((with_reducible refine Below.alloc ?_ ?_ _); rotate_left; (focus (first | omega | (dsimp only; omega) | (simp; done) | (simp; omega)))) | ((with_reducible refine Below.setCell ?_ ?_ _); rotate_left; (focus (first | omega | (dsimp only; omega) | (simp; done) | (simp; omega)))) | ((with_reducible refine Below.step ?_ (by assumption) ?_); rotate_left; (focus (first | omega | (dsimp only; omega) | (simp; done) | (simp; omega))))))⟩
  · rw [decide_eq_false h]
    go_enter Tryz.func40, Tryz.ntmps40
    go_wp2_with fail
    go_ret
    exact ⟨rfl, by (repeat (first | with_reducible exact Below.refl _ _ | with_reducible assumption | (with_reducible refine Below.drew ?_) | (with_reducible refine Below.manyDrew ?_ _) | ((with_reducible refine Below.alloc ?_ ?_ _); rotate_left; (focus (first | omega | (dsimp only; omega) | (simp; done) | (simp; omega)))) | ((with_reducible refine Below.setCell ?_ ?_ _); rotate_left; (focus (first | omega | (dsimp only; omega) | (simp; done) | (simp; omega)))) | ((with_reducible refine Below.step ?_ (by assumption) ?_); rotate_left; (focus (first | omega | (dsimp only; omega) | (simp; done) | (simp; omega))))))⟩
set_option maxHeartbeats 2000000 in
theorem indexFunc_any (bx : Nat) (v : Int) (s : SlV Pt) (w : World) (hs : PtsAt w s) (hbx : w.cell? ⟨bx, 0, none⟩ = some (.int .i64 v)) (hl : bx < w.heap.size) :
    Calls Tryz.prog 39 #[.slice s.A s.xs.length s.c, .func (.func 40) #[] #[.pointer (some ⟨bx, 0, none⟩)]] w fun e w' => e = .returned (.int .i64 (idxP v s.xs 0)) ∧ Below w.heap.size w w' := by
  have hlen := hs.len
  unfold maxLen at hlen
  have HS := hid (fun W (hW : Below w.heap.size w W) => hs.stays hW)
  have HCl := hid (fun x0 x1 W (hW : Below w.heap.size w W) => closure_any bx v x0 x1 W ((hW.cell (p := ⟨bx, 0, none⟩) hl).trans hbx) (Nat.lt_of_lt_of_le hl hW.size))
  clear hs hbx
  generalize hR : idxP v s.xs 0 = R
  have HR := hid hR
  clear hR
  go_enter Tryz.func39, Tryz.ntmps39
  go_wp2_with fail
  go_loopw [8] (fun i wr => ∃ j : Nat, j ≤ s.xs.length ∧ i = .int .i64 j ∧ idxP v (s.xs.drop j) j = R ∧ Below w.heap.size w wr) (fun i _ => s.xs.length - (intOf i).toNat)
  case atStart => exact ⟨0, Nat.zero_le _, rfl, HR.out, Below.refl _ _⟩
  case round =>
    obtain ⟨j, hj, rfl, hkr, hbr⟩ := hrel
    obtain ⟨wj, rfl⟩ : ∃ wj : World, wj = wr := ⟨_, rfl⟩
    have Hbr := hid hbr
    by_cases hlt : j < s.xs.length
    · obtain ⟨b, off, hA, hb, hcells⟩ := (HS.out wj hbr).row (by omega)
      obtain ⟨k0, k1⟩ := hcells j hlt
      rw [drop_consD Pt.zero hlt, idxP_cons] at hkr
      generalize s.xs.getD j Pt.zero = x at *
      obtain ⟨x0, x1⟩ := x
      simp only at k0 k1 hkr
      have HC := hid (HCl.out x0 x1 wj hbr)
      have hjl : (j : Int) < (s.xs.length : Int) := by omega
      rw [hA]
      have Hkr := hid hkr
      clear hA hcells hkr hbr
      by_cases hv : v ≤ x0
      · rw [decide_eq_true hv] at HC
        have HF := hid (show (j : Int) = R by rw [← Hkr.out, if_pos hv])
        clear hv
        go_wp2_with fail
        refine HC.out.mono ?_
        rintro e w2 ⟨rfl, hb2⟩
        have Hb2 := hid (Below.step Hbr.out hb2 Hbr.out.size)
        clear hb2
        go_wp2_with fail
        go_ret
        exact ⟨by rw [← HF.out]; rfl, Hb2.out⟩
      · rw [decide_eq_false hv] at HC
        have HF := hid (show idxP v (s.xs.drop (j + 1)) (j + 1) = R by rw [← Hkr.out, if_neg hv])
        clear hv
        go_wp2_with fail
        refine HC.out.mono ?_
        rintro e w2 ⟨rfl, hb2⟩
        have Hb2 := hid (Below.step Hbr.out hb2 Hbr.out.size)
        clear hb2
        go_wp2_with fail
        go_roundw
        case rel => exact ⟨j + 1, by omega, by go_num, HF.out, Hb2.out⟩
        case measure => simp [intOf]; omega
    · obtain rfl : j = s.xs.length := by omega
      rw [List.drop_length] at hkr
      have HF := hid hkr
      clear hkr hbr
      go_wp2_with fail
      go_ret
      exact ⟨by rw [← HF.out]; rfl, Hbr.out⟩
/-- where a key's owners begin -/
def firstP (l : List Pt) (key : Int) : Nat := (idxP (hashP key key : Int) l 0).toNat
theorem firstP_lt {l : List Pt} (key : Int) (h : 0 < l.length) : firstP l key < l.length := by
  unfold firstP
  rcases idxP_in (hashP key key : Int) l 0 with h1 | h1 <;> omega
set_option maxHeartbeats 2000000 in
theorem first_any (s : SlV Pt) (key : Int) (w : World) (hs : PtsAt w s) (hk : keyB key = true) (htb : Tb w) :
    Calls Tryz.prog 24 #[.slice s.A s.xs.length s.c, .int .i64 key] w fun e w' => e = .returned (.int .i64 (firstP s.xs key : Nat)) ∧ Below w.heap.size w w' := by
  obtain ⟨k0, k8⟩ := keyB_true.1 hk
  have HP := hid (pair_any key key (by unfold I64; omega) (by unfold I64; omega) w htb)
  have HI := hid (fun bx v W (hW : Below w.heap.size w W) h1 h2 => indexFunc_any bx v s W (hs.stays hW) h1 h2)
  have hfi := idxP_in (hashP key key : Int) s.xs 0
  unfold firstP
  unfold hashP at hfi ⊢
  generalize hashL (pairT key key) = h at *
  clear hs hk htb
  generalize hR : idxP ((h % 256 : Nat) : Int) s.xs 0 = R at *
  have HR := hid hR
  clear hR
  go_enter Tryz.func24, Tryz.ntmps24
  go_wp2_with fail
  refine HP.out.mono ?_
  rintro e w1 ⟨rfl, hb1⟩
  have Hb1 := hid hb1
  have hz1 := hb1.size
  clear hb1 HP
  go_upto_region 2 with fail
  have hB := Blk.new w1 3 #[.int .i64 ((h % 256 : Nat) : Int)]
  have hI := HI.out w1.heap.size ((h % 256 : Nat) : Int) _ (Hb1.out.alloc hz1 _) (hB.cell 0) hB.lt
  rw [HR.out] at hI
  have HI2 := hid hI
  clear hI hB HI
  go_wp2_with fail
  refine HI2.out.mono ?_
  rintro e w2 ⟨rfl, hb2⟩
  have Hb2 := hid (Below.step (Hb1.out.alloc hz1 _) hb2 (by rw [World.size_alloc]; omega))
  clear hb2
  go_wp2_with fail
  go_ret
  exact ⟨congrArg (fun x => Ending.returned (Value.int .i64 x)) (show max 0 R = ((R.toNat : Nat) : Int) by omega), Hb2.out⟩
end Go.Proofs.YtepddjfbkjplfaaGreatDoor
