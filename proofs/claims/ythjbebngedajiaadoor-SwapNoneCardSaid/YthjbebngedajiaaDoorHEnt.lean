/-
  THE CONTRACTS of hash.One and hash.Entry. CONDITIONS: the library's table of the powers of ten reads as it is laid (Tb).
-/
import Derived.Test.YthjbebngedajiaaDoorHOne
import Derived.Test.YthjbebngedajiaaDoorEntryLaw
import Derived.Deep.DeepCutAuto
import Derived.Deep.CutBlock
namespace Go.Proofs.YthjbebngedajiaaDoor
open Go.RowKit
open Go.ChangeShapes Go.WideShapes Go.ChangeAt

theorem bytesOf_append (x y : ByteArray) : bytesOf (x ++ y) = bytesOf x ++ bytesOf y := by simp [bytesOf]
theorem intsAt_drew {w : World} {s : SlV Int} (h : IntsAt w s) : IntsAt w.drew s := ⟨h.row, h.len⟩
theorem words3' (a b c : Int) (ha : I64 a) (hb : I64 b) (hc : I64 c) (N : Nat) (W : World) (hi : IntsAt W ⟨some ⟨N, 0, none⟩, 3, [a, b, c]⟩) (ht : Tb W) :
    Calls Tryd.prog 84 #[.slice (some ⟨N, 0, none⟩) 3 3] W fun e w' => e = .returned (.string ⟨(Go.Lib.join [Go.Lib.itoa a, Go.Lib.itoa b, Go.Lib.itoa c] [47]).toArray⟩) ∧ Below W.heap.size W w' := by
  have h1 := itoa_le ha
  have h2 := itoa_le hb
  have h3 := itoa_le hc
  exact words_any ⟨some ⟨N, 0, none⟩, 3, [a, b, c]⟩ _ hi (by simp) (by simp) (by intro n hn; simp only [List.mem_cons, List.not_mem_nil, or_false] at hn; rcases hn with rfl | rfl | rfl <;> assumption) (by show (Go.Lib.join [Go.Lib.itoa a, Go.Lib.itoa b, Go.Lib.itoa c] [47]).length ≤ _; rw [join3_len]; omega) ht

set_option maxHeartbeats 4000000 in
set_option maxRecDepth 100000 in
theorem one_any (k v a : Int) (g : Bool) (t : ByteArray) (hk : I64 k) (hv : I64 v) (h12 : t.size ≤ 12) (w : World) (ht : Tb w) :
    Calls Tryd.prog 68 #[.agg #[.int .i64 k, .int .i64 v, .int .i64 a, .bool g, .string t]] w fun e w' => e = .returned (.int .i64 (hashL (oneT k v g t) : Nat)) ∧ Below w.heap.size w w' := by
  obtain ⟨gi, hgi, hg64⟩ : ∃ gi : Int, (if g then 1 else 0) = gi ∧ I64 gi := by
    cases g
    · exact ⟨0, rfl, by decide, by decide⟩
    · exact ⟨1, rfl, by decide, by decide⟩
  have HW := hid (fun N W => words3' k v gi hk hv hg64 N W)
  have hle : (Go.Lib.join [Go.Lib.itoa k, Go.Lib.itoa v, Go.Lib.itoa gi] [47]).length ≤ 65 := by
    have h1 := itoa_le hk
    have h2 := itoa_le hv
    have h3 := itoa_le hg64
    rw [join3_len]
    omega
  have HT : oneT k v g t = Go.Lib.join [Go.Lib.itoa k, Go.Lib.itoa v, Go.Lib.itoa gi] [47] ++ [47] ++ bytesOf t := by
    rw [oneT, hgi]
    simp
  generalize Go.Lib.join [Go.Lib.itoa k, Go.Lib.itoa v, Go.Lib.itoa gi] [47] = J0 at *
  obtain ⟨J, hJ⟩ : ∃ J : ByteArray, J = ⟨J0.toArray⟩ := ⟨_, rfl⟩
  rw [← hJ] at HW
  have hJb : bytesOf J = J0 := by rw [hJ, bytesOf_mk]
  have hJz : J.size ≤ 65 := by rw [← bytesOf_len, hJb]; exact hle
  obtain ⟨S1, hS1⟩ : ∃ S1 : ByteArray, S1 = J ++ ⟨#[47]⟩ := ⟨_, rfl⟩
  have hb1 : bytesOf S1 = J0 ++ [47] := by rw [hS1, bytesOf_append, hJb]; rfl
  have hz1 : S1.size ≤ 66 := by rw [← bytesOf_len, hb1, List.length_append, ← hJb, bytesOf_len]; simp only [List.length_cons, List.length_nil]; omega
  obtain ⟨S2, hS2⟩ : ∃ S2 : ByteArray, S2 = S1 ++ t := ⟨_, rfl⟩
  have hS : bytesOf S2 = oneT k v g t := by rw [hS2, bytesOf_append, hb1, HT]
  have hz : S2.size ≤ 1000 := by rw [← bytesOf_len, hS2, bytesOf_append, List.length_append, bytesOf_len, bytesOf_len]; omega
  have q1 : ∀ W, (Op.stringOp .add J ⟨#[47]⟩).run Tryd.prog W = .ok (.string S1) W := fun W => by rw [run_string_add_sum W J _ (by show J.size + 1 ≤ _; omega), hS1]
  have q2 : ∀ W, (Op.stringOp .add S1 t).run Tryd.prog W = .ok (.string S2) W := fun W => by rw [run_string_add_sum W S1 _ (by omega), hS2]
  have HO := hid (fun W => of_any S2 W hz)
  rw [hS] at HO
  generalize hashL (oneT k v g t) = h at *
  have Hgi := hid hgi
  have Ht := hid ht
  clear hS hz HT hle hk hv hg64 hgi ht hS1 hS2 hb1 hJb hJ
  obtain ⟨wA, hwA⟩ : ∃ wA : World, wA = w.alloc (.cells #[.int .i64 k, .int .i64 v, .int .i64 a, .bool g, .string t] 26) := ⟨_, rfl⟩
  have HX := hid (show Blk wA w.heap.size 26 #[.int .i64 k, .int .i64 v, .int .i64 a, .bool g, .string t] by rw [hwA]; exact Blk.new _ _ _)
  have hbA : Below w.heap.size w wA := by rw [hwA]; (repeat (first | with_reducible exact Below.refl _ _ | with_reducible assumption | (with_reducible refine Below.drew ?_) | (with_reducible refine Below.manyDrew ?_ _) | ((with_reducible refine Below.alloc ?_ ?_ _); rotate_left; (focus (first | omega | (dsimp only; omega) | (simp; done) | (simp; omega)))) | ((with_reducible refine Below.setCell ?_ ?_ _); rotate_left; (focus (first | omega | (dsimp only; omega) | (simp; done) | (simp; omega)))) | ((with_reducible refine Below.step ?_ (by assumption) ?_); rotate_left; (focus (first | omega | (dsimp only; omega) | (simp; done) | (simp; omega))))))
  have HbA := hid hbA
  have HtA := hid (Ht.out.belowS hbA)
  have hzA := hbA.size
  clear hbA
  have c0 : wA.cell? ⟨w.heap.size, 0, none⟩ = some (.int .i64 k) := HX.out.cell 0
  have c1 : wA.cell? ⟨w.heap.size, 1, none⟩ = some (.int .i64 v) := HX.out.cell 1
  have c4 : wA.cell? ⟨w.heap.size, 4, none⟩ = some (.string t) := HX.out.cell 4
  have hltA := HX.out.lt
  have HwA := hid hwA
  clear hwA
  go_enter Tryd.func68, Tryd.ntmps68
  go_upto_if 5 with fail
  rw [← HwA.out]
  go_cut [3] (fun u wx => u = .int .i64 gi ∧ wx = wA)
  case first =>
    have c3 : wA.cell? ⟨w.heap.size, 3, none⟩ = some (.bool g) := HX.out.cell 3
    cases g
    all_goals
      first | obtain rfl : gi = 0 := Hgi.out.symm | obtain rfl : gi = 1 := Hgi.out.symm
      go_wp2_with fail
      go_meet
      exact ⟨rfl, rfl⟩
  case rest =>
  obtain ⟨rfl, hwc⟩ := hcut
  obtain rfl : wA = wc := hwc.symm
  clear Hgi HwA
  go_upto_region 4 with fail
  go_region_with (first
    | (go_at_call 84; refine (HW.out wA.heap.size _ ?_ ?_).mono ?_; (first | with_reducible exact intsAt_new wA 3 [k, v, gi] (by simp) | exact intsAt_drew (intsAt_new wA 3 [k, v, gi] (by simp))); (exact HtA.out.belowS (by (repeat (first | with_reducible exact Below.refl _ _ | with_reducible assumption | (with_reducible refine Below.drew ?_) | (with_reducible refine Below.manyDrew ?_ _) | ((with_reducible refine Below.alloc ?_ ?_ _); rotate_left; (focus (first | omega | (dsimp only; omega) | (simp; done) | (simp; omega)))) | ((with_reducible refine Below.setCell ?_ ?_ _); rotate_left; (focus (first | omega | (dsimp only; omega) | (simp; done) | (simp; omega)))) | ((with_reducible refine Below.step ?_ (by assumption) ?_); rotate_left; (focus (first | omega | (dsimp only; omega) | (simp; done) | (simp; omega)))))))); rintro e wx ⟨rfl, hbx⟩; have hbx2 : Below wA.heap.size wA wx := (Below.step (by (repeat (first | with_reducible exact Below.refl _ _ | with_reducible assumption | (with_reducible refine Below.drew ?_) | (with_reducible refine Below.manyDrew ?_ _) | ((with_reducible refine Below.alloc ?_ ?_ _); rotate_left; (focus (first | omega | (dsimp only; omega) | (simp; done) | (simp; omega)))) | ((with_reducible refine Below.setCell ?_ ?_ _); rotate_left; (focus (first | omega | (dsimp only; omega) | (simp; done) | (simp; omega)))) | ((with_reducible refine Below.step ?_ (by assumption) ?_); rotate_left; (focus (first | omega | (dsimp only; omega) | (simp; done) | (simp; omega))))))) hbx (by simp)); have hzx := hbx2.size; have c4x : wx.cell? ⟨w.heap.size, 4, none⟩ = some (.string t) := (hbx2.cell (p := ⟨w.heap.size, 4, none⟩) hltA).trans c4)
    | (go_at_call 83; refine (HO.out _).mono ?_; rintro e wy ⟨rfl, hby⟩))
  all_goals
    have hbA2 := HbA.out
    go_wp2_with fail
    go_ret
    exact ⟨rfl, by (repeat (first | with_reducible exact Below.refl _ _ | with_reducible assumption | (with_reducible refine Below.drew ?_) | (with_reducible refine Below.manyDrew ?_ _) | ((with_reducible refine Below.alloc ?_ ?_ _); rotate_left; (focus (first | omega | (dsimp only; omega) | (simp; done) | (simp; omega)))) | ((with_reducible refine Below.setCell ?_ ?_ _); rotate_left; (focus (first | omega | (dsimp only; omega) | (simp; done) | (simp; omega)))) | ((with_reducible refine Below.step ?_ (by assumption) ?_); rotate_left; (focus (first | omega | (dsimp only; omega) | (simp; done) | (simp; omega))))))⟩

def entN (e : E) : Int := if chk e = 0 then (hashL (oneT e.key e.ver e.gone e.text) : Nat) else 0
set_option maxRecDepth 100000 in
theorem hentry_any (k v a : Int) (g : Bool) (t : ByteArray) (ht12 : t.size ≤ maxLen) (w : World) (ht : Tb w) :
    Calls Tryd.prog 40 #[.agg #[.int .i64 k, .int .i64 v, .int .i64 a, .bool g, .string t]] w fun e w' => e = .returned (.tuple #[.int .i64 (entN ⟨k, v, a, g, t⟩), errV (chk ⟨k, v, a, g, t⟩)]) ∧ Below w.heap.size w w' := by
  obtain ⟨wA, hwA⟩ : ∃ wA : World, wA = w.alloc (.cells #[.int .i64 k, .int .i64 v, .int .i64 a, .bool g, .string t] 26) := ⟨_, rfl⟩
  have hX : Blk wA w.heap.size 26 #[.int .i64 k, .int .i64 v, .int .i64 a, .bool g, .string t] := by rw [hwA]; exact Blk.new _ _ _
  have hbA : Below w.heap.size w wA := by rw [hwA]; (repeat (first | with_reducible exact Below.refl _ _ | with_reducible assumption | (with_reducible refine Below.drew ?_) | (with_reducible refine Below.manyDrew ?_ _) | ((with_reducible refine Below.alloc ?_ ?_ _); rotate_left; (focus (first | omega | (dsimp only; omega) | (simp; done) | (simp; omega)))) | ((with_reducible refine Below.setCell ?_ ?_ _); rotate_left; (focus (first | omega | (dsimp only; omega) | (simp; done) | (simp; omega)))) | ((with_reducible refine Below.step ?_ (by assumption) ?_); rotate_left; (focus (first | omega | (dsimp only; omega) | (simp; done) | (simp; omega))))))
  have hzA := hbA.size
  have hltA := hX.lt
  have HX := hid hX
  have HbA := hid hbA
  have Ht := hid ht
  have HwA := hid hwA
  have HC := hid (check_any k v a g t wA ht12)
  have c0 : wA.cell? ⟨w.heap.size, 0, none⟩ = some (.int .i64 k) := hX.cell 0
  have c1 : wA.cell? ⟨w.heap.size, 1, none⟩ = some (.int .i64 v) := hX.cell 1
  have c2 : wA.cell? ⟨w.heap.size, 2, none⟩ = some (.int .i64 a) := hX.cell 2
  have c3 : wA.cell? ⟨w.heap.size, 3, none⟩ = some (.bool g) := hX.cell 3
  have c4 : wA.cell? ⟨w.heap.size, 4, none⟩ = some (.string t) := hX.cell 4
  clear hX hbA ht hwA
  by_cases hc : chk ⟨k, v, a, g, t⟩ = 0
  · obtain ⟨hk8, hv0, hl⟩ : (0 ≤ k ∧ k ≤ 7) ∧ (0 ≤ v ∧ v ≤ 1000) ∧ t.size ≤ 12 := by
      obtain ⟨h1, h2, h3, _, h5, _⟩ := chk_zero.1 hc
      have k1 := keyB_true.1 h1
      have k2 := seqB_true.1 h2
      simp only at k1 k2 h5
      exact ⟨by omega, by omega, by omega⟩
    have HO := hid (fun W hW => one_any k v a g t ⟨by omega, by omega⟩ ⟨by omega, by omega⟩ hl W hW)
    rw [show entN ⟨k, v, a, g, t⟩ = (hashL (oneT k v g t) : Nat) from if_pos hc, show errV (chk ⟨k, v, a, g, t⟩) = .nilIface by rw [hc]; rfl]
    rw [show errV (chk ⟨k, v, a, g, t⟩) = .nilIface by rw [hc]; rfl] at HC
    clear hc
    generalize hashL (oneT k v g t) = h at *
    go_enter Tryd.func40, Tryd.ntmps40
    go_upto_region 1 with fail
    rw [← HwA.out]
    go_wp2_with fail
    refine HC.out.mono ?_
    rintro e w1 ⟨rfl, hb1⟩
    have hz1 := hb1.size
    have e0 := (hb1.cell (p := ⟨w.heap.size, 0, none⟩) hltA).trans c0
    have e1 := (hb1.cell (p := ⟨w.heap.size, 1, none⟩) hltA).trans c1
    have e2 := (hb1.cell (p := ⟨w.heap.size, 2, none⟩) hltA).trans c2
    have e3 := (hb1.cell (p := ⟨w.heap.size, 3, none⟩) hltA).trans c3
    have e4 := (hb1.cell (p := ⟨w.heap.size, 4, none⟩) hltA).trans c4
    have Hb1 := hid (Below.step HbA.out hb1 hzA)
    clear hb1
    go_wp2_with fail
    refine (HO.out w1 (Ht.out.belowS Hb1.out)).mono ?_
    rintro e w2 ⟨rfl, hb2⟩
    go_wp2_with fail
    go_ret2
    exact ⟨rfl, Below.step Hb1.out hb2 (by omega)⟩
  · have hcn := errV_ne hc
    rw [show entN ⟨k, v, a, g, t⟩ = 0 from if_neg hc, hcn]
    rw [hcn] at HC
    clear hc hcn
    generalize chk ⟨k, v, a, g, t⟩ = ce at *
    go_enter Tryd.func40, Tryd.ntmps40
    go_upto_region 1 with fail
    rw [← HwA.out]
    go_wp2_with fail
    refine HC.out.mono ?_
    rintro e w1 ⟨rfl, hb1⟩
    have Hb1 := hid (Below.step HbA.out hb1 hzA)
    clear hb1
    go_wp2_with fail
    go_ret2
    exact ⟨rfl, Hb1.out⟩
end Go.Proofs.YthjbebngedajiaaDoor
