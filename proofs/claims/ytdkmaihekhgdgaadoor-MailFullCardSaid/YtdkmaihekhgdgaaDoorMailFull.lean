/-
  PROVED HERE: merelaw4.MailFull returns true for every three numbers: forty, and no more. CONDITIONS: errors.errorType as the program's text lays it (tied by the card).
-/
import Derived.Test.YtdkmaihekhgdgaaDoorMail4
import Derived.Test.YtdkmaihekhgdgaaDoorDoor
namespace Go.Proofs.YtdkmaihekhgdgaaDoor
open Go.RowKit
open Go.ChangeShapes Go.WideShapes Go.ChangeAt

def fullY (f t : Int) : Lt := ⟨f, t, 1, 0, 0, true, ⟨#[]⟩⟩
theorem fullY_chk (f t : Int) : chkL (fullY f t) = 0 := by
  show chk ⟨1, 0, 0, true, ⟨#[]⟩⟩ = 0
  simp [chk, keyB, seqB]
  exact (show (0 : Int) ≤ 12 by decide)
theorem fullY_good {f t : Int} (hf : wfI f) (ht : wfI t) : (fullY f t).good := ⟨hf, ht, ⟨(show (-9223372036854775808 : Int) ≤ 1 by decide), (show (1 : Int) ≤ 9223372036854775807 by decide)⟩, ⟨(show (-9223372036854775808 : Int) ≤ 0 by decide), (show (0 : Int) ≤ 9223372036854775807 by decide)⟩, ⟨(show (-9223372036854775808 : Int) ≤ 0 by decide), (show (0 : Int) ≤ 9223372036854775807 by decide)⟩, trivial, Nat.zero_le _⟩
theorem fullY_sendE (f t : Int) (L : List Lt) (hL : L.length < 40) : sendE L (fullY f t) = endsE f t := by
  unfold sendE
  rw [fullY_chk, if_pos rfl, putE_lt hL]
  show (if endsE f t = 0 then 0 else endsE f t) = endsE f t
  split
  · rename_i h; exact h.symm
  · rfl
theorem fullY_sendL {f t : Int} (he : endsE f t = 0) (L : List Lt) (hL : L.length < 40) : sendL (fun _ _ => false) L (fullY f t) = L ++ [fullY f t] := by
  unfold sendL
  rw [fullY_chk, if_pos rfl, if_pos (show endsE (fullY f t).frm (fullY f t).dst = 0 from he), if_neg (show ¬ false = true by decide), putL, if_neg (by omega)]
theorem rep_snoc {α : Type} (n : Nat) (y : α) : List.replicate n y ++ [y] = List.replicate (n + 1) y := by
  rw [List.replicate_succ']

set_option maxHeartbeats 4000000 in
set_option maxRecDepth 100000 in
theorem mailFull_out (f t n : Int) (hf : wfI f) (ht : wfI t) (w : World) (hno : endsE f t = 0 → n < 1 ∨ 60 < n) :
    Calls Tryd.prog 3 #[.int .i64 f, .int .i64 t, .int .i64 n] w fun e w' => e = .returned (.bool true) ∧ Below w.heap.size w w' := by
  have HS := hid (fun v W (hO : MailO w.heap.size W (w.heap.size + 1) w.heap.size v [] 0 (fun _ _ => false)) => msend_any w.heap.size (w.heap.size + 1) w.heap.size 0 f t 1 0 0 true ⟨#[]⟩ (fullY_good hf ht) v [] (fun _ _ => false) W hO)
  have HE := hid (fullY_sendE f t [] (by decide))
  by_cases he : endsE f t = 0
  · have HL := hid (fullY_sendL he [] (by decide))
    have hno' := hno he
    have He := hid he
    clear hno he
    go_enter Tryd.func3, Tryd.ntmps3
    go_wp2_with fail
    refine (mnew_any _).mono ?_
    rintro e w1 ⟨rfl, hO1, hb1⟩
    have HO1 := hid hO1
    have Hb1 := hid hb1
    have hz1 := hb1.size
    clear hO1 hb1
    go_wp2_with fail
    refine (HS.out _ _ (HO1.out.belowS (by (repeat (first | with_reducible exact Below.refl _ _ | with_reducible assumption | (with_reducible refine Below.drew ?_) | (with_reducible refine Below.manyDrew ?_ _) | ((with_reducible refine Below.alloc ?_ ?_ _); rotate_left; (focus (first | omega | (dsimp only; omega) | (simp; done) | (simp; omega)))) | ((with_reducible refine Below.setCell ?_ ?_ _); rotate_left; (focus (first | omega | (dsimp only; omega) | (simp; done) | (simp; omega)))) | ((with_reducible refine Below.step ?_ (by assumption) ?_); rotate_left; (focus (first | omega | (dsimp only; omega) | (simp; done) | (simp; omega))))))))).mono ?_
    rintro e w2 ⟨v2, rfl, hO2, hF2, _⟩
    rw [show sendE [] ⟨f, t, 1, 0, 0, true, ⟨#[]⟩⟩ = 0 from HE.out.trans He.out, errV_zero]
    rw [show sendL (fun _ _ => false) [] ⟨f, t, 1, 0, 0, true, ⟨#[]⟩⟩ = _ from HL.out] at hO2
    have HO2 := hid hO2
    have Hb2 := hid (show Below w.heap.size w w2 from ((Hb1.out).alloc (by omega) _).trans (hF2.below0 (by simp; omega) (fun i hi => (HO1.out.fml hi).1)))
    clear hO2 hF2
    rcases hno' with hn | hn
    all_goals
      go_wp2_with fail
      refine (mcount_any w.heap.size (w.heap.size + 1) w.heap.size 0 v2 _ _ w2 HO2.out).mono ?_
      rintro e w3 ⟨rfl, rfl⟩
      go_wp2_with fail
      go_ret
      exact ⟨rfl, Hb2.out⟩
  · have HN := hid (show errV (sendE [] ⟨f, t, 1, 0, 0, true, ⟨#[]⟩⟩) = .iface 59 (.int .i64 (endsE f t)) from by rw [show sendE [] ⟨f, t, 1, 0, 0, true, ⟨#[]⟩⟩ = endsE f t from HE.out, errV_ne he])
    have HL := hid (show sendL (fun _ _ => false) [] ⟨f, t, 1, 0, 0, true, ⟨#[]⟩⟩ = [] from by rw [sendL, if_neg (show ¬ endsE f t = 0 from he)])
    clear hno he
    go_enter Tryd.func3, Tryd.ntmps3
    go_wp2_with fail
    refine (mnew_any _).mono ?_
    rintro e w1 ⟨rfl, hO1, hb1⟩
    have HO1 := hid hO1
    have Hb1 := hid hb1
    have hz1 := hb1.size
    clear hO1 hb1
    go_wp2_with fail
    refine (HS.out _ _ (HO1.out.belowS (by (repeat (first | with_reducible exact Below.refl _ _ | with_reducible assumption | (with_reducible refine Below.drew ?_) | (with_reducible refine Below.manyDrew ?_ _) | ((with_reducible refine Below.alloc ?_ ?_ _); rotate_left; (focus (first | omega | (dsimp only; omega) | (simp; done) | (simp; omega)))) | ((with_reducible refine Below.setCell ?_ ?_ _); rotate_left; (focus (first | omega | (dsimp only; omega) | (simp; done) | (simp; omega)))) | ((with_reducible refine Below.step ?_ (by assumption) ?_); rotate_left; (focus (first | omega | (dsimp only; omega) | (simp; done) | (simp; omega))))))))).mono ?_
    rintro e w2 ⟨v2, rfl, hO2, hF2, _⟩
    rw [HN.out]
    rw [HL.out] at hO2
    have HO2 := hid hO2
    have Hb2 := hid (show Below w.heap.size w w2 from ((Hb1.out).alloc (by omega) _).trans (hF2.below0 (by simp; omega) (fun i hi => (HO1.out.fml hi).1)))
    clear hO2 hF2
    go_wp2_with fail
    refine (mcount_any w.heap.size (w.heap.size + 1) w.heap.size 0 v2 _ _ w2 HO2.out).mono ?_
    rintro e w3 ⟨rfl, rfl⟩
    go_wp2_with fail
    go_ret
    exact ⟨rfl, Hb2.out⟩

set_option maxHeartbeats 8000000 in
set_option maxRecDepth 100000 in
theorem mailFull_in (f t : Int) (n : Nat) (hf : wfI f) (ht : wfI t) (w : World) (he : endsE f t = 0) (hn1 : 1 ≤ n) (hn2 : n ≤ 60) (hgl : Gl w) :
    Calls Tryd.prog 3 #[.int .i64 f, .int .i64 t, .int .i64 n] w fun e w' => e = .returned (.bool true) ∧ Below w.heap.size w w' := by
  have hg0 := hgl.lt
  have HS := hid (fun v L W (hL : L.length < 40) (hO : MailO w.heap.size W (w.heap.size + 1) w.heap.size v L 0 (fun _ _ => false)) => show Calls Tryd.prog 6 #[.pointer (some ⟨w.heap.size + 1, 0, none⟩), .agg #[.int .i64 f, .int .i64 t, .int .i64 1, .int .i64 0, .int .i64 0, .bool true, .string ⟨#[]⟩]] W (MRes w.heap.size (w.heap.size + 1) w.heap.size v W .nilIface (L ++ [fullY f t]) 0 (fun _ _ => false)) from by
    have := msend_any w.heap.size (w.heap.size + 1) w.heap.size 0 f t 1 0 0 true ⟨#[]⟩ (fullY_good hf ht) v L (fun _ _ => false) W hO
    rw [show sendE L ⟨f, t, 1, 0, 0, true, ⟨#[]⟩⟩ = 0 from (fullY_sendE f t L hL).trans he, errV_zero, show sendL (fun _ _ => false) L ⟨f, t, 1, 0, 0, true, ⟨#[]⟩⟩ = _ from fullY_sendL he L hL] at this
    exact this)
  have HT := hid (fun (k : Nat) v W (hk1 : 1 ≤ k) (hk : k < 40) (hO : MailO w.heap.size W (w.heap.size + 1) w.heap.size v (List.replicate (min k 40) (fullY f t)) 0 (fun _ _ => false)) => show Calls Tryd.prog 8 #[.pointer (some ⟨w.heap.size + 1, 0, none⟩), .int .i64 0] W (MRes w.heap.size (w.heap.size + 1) w.heap.size v W .nilIface (List.replicate (min (k + 1) 40) (fullY f t)) 0 (fun _ _ => false)) from by
    have := mtwice_any w.heap.size (w.heap.size + 1) w.heap.size 0 0 v _ (fun _ _ => false) W hO
    have hin : inB 0 (List.replicate (min k 40) (fullY f t)).length = true := inB_true.2 (by simp; omega)
    have hy : (List.replicate (min k 40) (fullY f t)).getD (0 : Int).toNat Lt.zero = fullY f t := by
      rw [getD_get _ (by simp; omega)]; simp
    rw [twiceE, if_pos hin, twiceL, if_pos hin, hy, putE_lt (by simp; omega), errV_zero, putL, if_neg (by simp; omega), rep_snoc, show min k 40 + 1 = min (k + 1) 40 by omega] at this
    exact this)
  have HT2 := hid (fun (k : Nat) v W (hk : 40 ≤ k) (hO : MailO w.heap.size W (w.heap.size + 1) w.heap.size v (List.replicate (min k 40) (fullY f t)) 0 (fun _ _ => false)) => show Calls Tryd.prog 8 #[.pointer (some ⟨w.heap.size + 1, 0, none⟩), .int .i64 0] W (MRes w.heap.size (w.heap.size + 1) w.heap.size v W (.iface 59 (.int .i64 4)) (List.replicate (min (k + 1) 40) (fullY f t)) 0 (fun _ _ => false)) from by
    have := mtwice_any w.heap.size (w.heap.size + 1) w.heap.size 0 0 v _ (fun _ _ => false) W hO
    have hin : inB 0 (List.replicate (min k 40) (fullY f t)).length = true := inB_true.2 (by simp; omega)
    have h40 : (List.replicate (min k 40) (fullY f t)).length = 40 := by simp; omega
    rw [twiceE, if_pos hin, twiceL, if_pos hin, putE, if_pos h40, errV_ne (show (4 : Int) ≠ 0 by decide), putL, if_pos h40, show min k 40 = min (k + 1) 40 by omega] at this
    exact this)
  have HG := hid (fun (k : Nat) v W (hk1 : 1 ≤ k) (hO : MailO w.heap.size W (w.heap.size + 1) w.heap.size v (List.replicate (min k 40) (fullY f t)) 0 (fun _ _ => false)) => show Calls Tryd.prog 10 #[.pointer (some ⟨w.heap.size + 1, 0, none⟩), .int .i64 0] W (MRes w.heap.size (w.heap.size + 1) w.heap.size v W (.tuple #[.agg #[.int .i64 f, .int .i64 t, .int .i64 1, .int .i64 0, .int .i64 0, .bool true, .string ⟨#[]⟩], .nilIface]) (Lt.out (List.replicate (min k 40) (fullY f t)) 0) 0 (fun _ _ => false)) from by
    have := mgive_any w.heap.size (w.heap.size + 1) w.heap.size 0 0 v _ (fun _ _ => false) W hO
    have hin : inB 0 (List.replicate (min k 40) (fullY f t)).length = true := inB_true.2 (by simp; omega)
    have hy : (List.replicate (min k 40) (fullY f t)).getD (0 : Int).toNat Lt.zero = fullY f t := by
      rw [getD_get _ (by simp; omega)]; simp
    rw [giveE, if_pos hin, giveL, if_pos hin, giveY, if_pos hin, hy, errV_zero] at this
    exact this)
  clear he hf ht
  go_enter Tryd.func3, Tryd.ntmps3
  go_wp2_with fail
  refine (mnew_any _).mono ?_
  rintro e w1 ⟨rfl, hO1, hb1⟩
  have HO1 := hid hO1
  have Hb1 := hid hb1
  have hz1 := hb1.size
  have hl1 := hO1.blk.lt
  clear hO1 hb1
  go_wp2_with fail
  refine (HS.out _ [] _ (by decide) (HO1.out.belowS (by (repeat (first | with_reducible exact Below.refl _ _ | with_reducible assumption | (with_reducible refine Below.drew ?_) | (with_reducible refine Below.manyDrew ?_ _) | ((with_reducible refine Below.alloc ?_ ?_ _); rotate_left; (focus (first | omega | (dsimp only; omega) | (simp; done) | (simp; omega)))) | ((with_reducible refine Below.setCell ?_ ?_ _); rotate_left; (focus (first | omega | (dsimp only; omega) | (simp; done) | (simp; omega)))) | ((with_reducible refine Below.step ?_ (by assumption) ?_); rotate_left; (focus (first | omega | (dsimp only; omega) | (simp; done) | (simp; omega))))))))).mono ?_
  rintro e w2 ⟨v2, rfl, hO2, hF2, o2⟩
  have hb2 : Below w.heap.size w w2 := ((Hb1.out).alloc (by omega) _).trans (hF2.below0 (by simp; omega) (fun i hi => (HO1.out.fml hi).1))
  have hz2 := hF2.size
  have hX2 : Blk w2 w1.heap.size 27 #[.int .i64 f, .int .i64 t, .int .i64 1, .int .i64 0, .int .i64 0, .bool true, .string ⟨#[]⟩] := (Blk.new w1 _ _).fr hF2 (fun h => by have := (HO1.out.fml h).2; omega)
  have hx2 : foot v2 ≠ some w1.heap.size := fun h => by
    rcases o2 with o | ⟨g, o, hg⟩
    · rw [o] at h; cases h
    · rw [o] at h; cases h; rw [World.size_alloc] at hg; omega
  have hzz : w1.heap.size < w2.heap.size := hX2.lt
  clear hF2 o2
  go_wp2_with fail
  go_loopw [9] (fun i wr => ∃ (k : Nat) (v : Value), 1 ≤ k ∧ k ≤ n ∧ i = .int .i64 k ∧ MailO w.heap.size wr (w.heap.size + 1) w.heap.size v (List.replicate (min k 40) (fullY f t)) 0 (fun _ _ => false) ∧ Blk wr w1.heap.size 27 #[.int .i64 f, .int .i64 t, .int .i64 1, .int .i64 0, .int .i64 0, .bool true, .string ⟨#[]⟩] ∧ foot v ≠ some w1.heap.size ∧ Below w.heap.size w wr)
    (fun i _ => n - (intOf i).toNat)
  case atStart => exact ⟨1, v2, Nat.le_refl _, hn1, rfl, hO2, hX2, hx2, hb2⟩
  case round =>
    obtain ⟨k, v, hk1, hkn, rfl, hO, hX, hx, hb⟩ := hrel
    have HO := hid hO
    have HX := hid hX
    have Hx := hid hx
    have Hb := hid hb
    have hXl := hX.lt
    clear hO2 hX2 hx2 hb2 hO hX hx hb
    have hrel2 : ∀ (v' : Value) (w' : World), MailO w.heap.size w' (w.heap.size + 1) w.heap.size v' (List.replicate (min (k + 1) 40) (fullY f t)) 0 (fun _ _ => false) → Fr (FM (w.heap.size + 1) w.heap.size v) wr w' → (foot v' = foot v ∨ ∃ g, foot v' = some g ∧ wr.heap.size ≤ g) →
        Blk w' w1.heap.size 27 #[.int .i64 f, .int .i64 t, .int .i64 1, .int .i64 0, .int .i64 0, .bool true, .string ⟨#[]⟩] ∧ foot v' ≠ some w1.heap.size ∧ Below w.heap.size w w' := fun v' w' h1 h2 h3 => by
      refine ⟨HX.out.fr h2 (fun h => ?_), fun h => ?_, Hb.out.trans (h2.below0 Hb.out.size (fun i hi => (HO.out.fml hi).1))⟩
      · rcases h with h | h | h
        · omega
        · omega
        · exact Hx.out h.symm
      · rcases h3 with o | ⟨g, o, hg⟩
        · exact Hx.out (by rw [← o, h])
        · rw [o] at h; cases h; omega
    have Hrel2 := hid hrel2
    clear hrel2
    by_cases hlt : k < n
    · by_cases h40 : k < 40
      · go_wp2_with fail
        refine (HT.out k v wr hk1 h40 HO.out).mono ?_
        rintro e w5 ⟨v5, rfl, h5, f5, o5⟩
        have h6 := Hrel2.out v5 w5 h5 f5 o5
        have H5 := hid h5
        have H6 := hid h6
        clear h5 f5 o5 h6
        go_wp2_with fail
        go_roundw
        case rel => exact ⟨k + 1, v5, by omega, by omega, by go_num, H5.out, H6.out⟩
        case measure => simp [intOf]; omega
      · go_wp2_with fail
        refine (HT2.out k v wr (by omega) HO.out).mono ?_
        rintro e w5 ⟨v5, rfl, h5, f5, o5⟩
        have h6 := Hrel2.out v5 w5 h5 f5 o5
        have hg5 := hgl.below h6.2.2 hg0
        have H5 := hid h5
        have H6 := hid h6
        clear h5 f5 o5 h6
        go_wp2_with fail
        refine (error_any 4 4 _ hg5).mono ?_
        rintro e w6 ⟨rfl, hb6⟩
        have H7 := hid (H5.out.belowS hb6)
        have H8 := hid (H6.out.1.belowS hb6)
        have H9 := hid (Below.step H6.out.2.2 hb6 H6.out.2.2.size)
        clear hb6 hg5
        go_wp2_with fail
        go_roundw
        case rel => exact ⟨k + 1, v5, by omega, by omega, by go_num, H7.out, H8.out, H6.out.2.1, H9.out⟩
        case measure => simp [intOf]; omega
    · obtain rfl : k = n := by omega
      go_wp2_with fail
      refine (HG.out k v wr hk1 HO.out).mono ?_
      rintro e w5 ⟨v5, rfl, h5, f5, o5⟩
      have hX5 : Blk w5 w1.heap.size 27 #[.int .i64 f, .int .i64 t, .int .i64 1, .int .i64 0, .int .i64 0, .bool true, .string ⟨#[]⟩] := HX.out.fr f5 (fun h => by
        rcases h with h | h | h
        · omega
        · omega
        · exact Hx.out h.symm)
      have hb5 : Below w.heap.size w w5 := Hb.out.trans (f5.below0 Hb.out.size (fun i hi => (HO.out.fml hi).1))
      have hx0 := hX5.cell 0
      have hx1 := hX5.cell 1
      have hx2 := hX5.cell 2
      have hx3 := hX5.cell 3
      have hx4 := hX5.cell 4
      have hx5 := hX5.cell 5
      have hx6 := hX5.cell 6
      simp at hx0 hx1 hx2 hx3 hx4 hx5 hx6
      have hXl5 := hX5.lt
      have H5 := hid h5
      have Hb5 := hid hb5
      have hzb5 := hb5.size
      clear h5 f5 o5 hX5 hb5
      go_wp2_with fail
      refine (HS.out v5 _ _ ?_ (H5.out.belowS (by (repeat (first | with_reducible exact Below.refl _ _ | with_reducible assumption | (with_reducible refine Below.drew ?_) | (with_reducible refine Below.manyDrew ?_ _) | ((with_reducible refine Below.alloc ?_ ?_ _); rotate_left; (focus (first | omega | (dsimp only; omega) | (simp; done) | (simp; omega)))) | ((with_reducible refine Below.setCell ?_ ?_ _); rotate_left; (focus (first | omega | (dsimp only; omega) | (simp; done) | (simp; omega)))) | ((with_reducible refine Below.step ?_ (by assumption) ?_); rotate_left; (focus (first | omega | (dsimp only; omega) | (simp; done) | (simp; omega))))))))).mono ?_
      · have : (Lt.out (List.replicate (min k 40) (fullY f t)) 0).length + 1 = (List.replicate (min k 40) (fullY f t)).length := Lt.out_length (by simp; omega)
        rw [List.length_replicate] at this
        omega
      rintro e w6 ⟨v6, rfl, h6, f6, o6⟩
      have Hb6 := hid (show Below w.heap.size w w6 from (Hb5.out.alloc (by omega) _).trans (f6.below0 (by simp; omega) (fun i hi => (H5.out.fml hi).1)))
      clear h6 f6 o6
      go_wp2_with fail
      go_ret
      exact ⟨rfl, Hb6.out⟩

set_option maxRecDepth 100000 in
theorem mailFull_walk : LawWalk Tryd.prog 3 Tryd.f3 Gl := by
  intro W base args H enc ds p hval hA hgl
  rw [Tryd.params3] at hA hval
  obtain ⟨v0, v1, v2, d0, d1, d2, p0, p1, p2, rfl, rfl, rfl, h0, h1, h2⟩ := trodAll_three hA
  obtain ⟨f, rfl, hf⟩ := arg_int Tryd.underlying3 (hval 0 3 v0 rfl rfl) h0
  obtain ⟨t, rfl, ht⟩ := arg_int Tryd.underlying3 (hval 1 3 v1 rfl rfl) h1
  obtain ⟨n, rfl, hn⟩ := arg_int Tryd.underlying3 (hval 2 3 v2 rfl rfl) h2
  by_cases h : endsE f t = 0 ∧ 1 ≤ n ∧ n ≤ 60
  · obtain ⟨m, rfl⟩ := Int.eq_ofNat_of_zero_le (show 0 ≤ n by omega)
    exact mailFull_in f t m hf ht W h.1 (by omega) (by omega) hgl
  · exact mailFull_out f t n hf ht W (fun he => by omega)

set_option maxRecDepth 100000 in
theorem mailFull_lifted (os : Os) (started : os.Started) (H : Type) (enc : TypeId × Value → H) :
    ReturnsInHanded {} Tryd.checked os 3 .any (fun w args => (Rows.mailFullSpec.pre enc Tryd.checked.prog Tryd.f3 [] false w args ∧ laidMetH Tryd.prog theLaid w) ∧ sizedMet enc Tryd.checked.prog Tryd.f3 (OpenSpec.ofChange Rows.mailFullSpec) false w args) (Rows.mailFullSpec.post enc Tryd.checked.prog Tryd.f3 false true false false) :=
  laid_lifted (C := Tryd.checked) theLaid (fun _ h => handle_of_laid h) [] Tryd.own started (by kernel_rfl) Tryd.func3 Tryd.laidOut (by kernel_rfl) rfl Tryd.underlying4 rfl (fun ds h => by match ds, h with | [_, _, _], _ => rfl)
    (ChangeSpec.witness_at (enc := enc) (C := Tryd.checked) (os := os) (X := fun w _ => laidMetH Tryd.prog theLaid w) false (laidWorld os) #[.int .i64 0, .int .i64 0, .int .i64 0] 8 rfl (by kernel_rfl) (by kernel_rfl) (by kernel_rfl) (by kernel_rfl) (by kernel_rfl) (laidWorld_met os _)) mailFull_walk

theorem mailFull_row : Rows.MailFullSaid :=
  OpenClaim.holds_of_wide 3 Tryd.f3 rfl rfl rfl rfl rfl rfl rfl ⟨rfl, rfl, rfl, rfl, rfl⟩ rfl rfl rfl rfl rfl (by kernel_rfl) Tryd.func3 (by kernel_rfl)
    (of_decide_eq_true (by kernel_rfl)) (by unfold Func.isWrapper; rw [if_neg (of_decide_eq_false (by kernel_rfl))]; exact ⟨rfl, rfl⟩)
    (fun os started H enc _ => mailFull_lifted os started H enc)

theorem mailFull_holds : Rows.MailFullCardSaid :=
  Claim7.holds_tied_plain_at .later [] [.handle] true _ true
    mailFull_row (fun _ h => by cases h) (by kernel_rfl) (fun _ h => by cases h) mailFull_row_tie rfl ⟨rfl, rfl⟩ (by kernel_rfl) rfl
    (fun f fn hf hfn => by
      obtain rfl : f = 3 := Option.some.inj ((show Tryd.prog.funcNamed "beaconmere/merelaw4.MailFull" = some 3 by kernel_rfl).symm.trans hf) |>.symm
      obtain rfl : fn = Tryd.f3 := (Option.some.inj (Tryd.func3.symm.trans hfn)).symm
      refine ⟨by kernel_rfl, fun j t ht => ?_⟩
      have hall : Tryd.f3.params.toList.all (fun t => !Tryd.prog.wantsStandIn t) = true := by kernel_rfl
      have hm : t ∈ Tryd.f3.params.toList := by
        obtain ⟨hj, hje⟩ := Array.getElem?_eq_some_iff.1 ht
        rw [← hje]
        exact Array.mem_toList_iff.2 (Array.getElem_mem hj)
      have := List.all_eq_true.1 hall t hm
      exact (show Tryd.prog.wantsStandIn t = false by simpa using this))
    (by kernel_rfl)

end Go.Proofs.YtdkmaihekhgdgaaDoor
