/-
  THE CONTRACTS of the reference's One and Pair (package mereref1). CONDITIONS: numbers from 0 on, texts of at most 12 bytes.
-/
import Derived.Test.YthjbebngedajiaaDoorRHash
namespace Go.Proofs.YthjbebngedajiaaDoor
open Go.RowKit
open Go.ChangeShapes Go.WideShapes Go.ChangeAt

theorem pairT_app (a b : Int) : pairT a b = Go.Lib.itoa a ++ [47] ++ Go.Lib.itoa b := by
  rw [pairT, Go.Lib.join_cons]; simp [Go.Lib.joinTail]
theorem cat_run (x y z : ByteArray) (h : x.size + y.size ≤ 1000000) (hz : z = x ++ y) (W : World) : (Op.stringOp .add x y).run Tryd.prog W = .ok (.string z) W := by
  rw [run_string_add_sum W x y (by omega), hz]
theorem size_cat (x y : ByteArray) : (x ++ y).size = x.size + y.size := by rw [← bytesOf_len, bytesOf_append, List.length_append, bytesOf_len, bytesOf_len]
theorem decN_le (n : Nat) (h : n < 4294967296) : (⟨(Go.Lib.decDigits n).toArray⟩ : ByteArray).size ≤ 20 := decDigits_le (by omega)

set_option maxRecDepth 100000 in
theorem rpair_any (a b : Nat) (ha : a < 4294967296) (hb : b < 4294967296) (w : World) :
    Calls Tryd.prog 65 #[.int .i64 a, .int .i64 b] w fun e w' => e = .returned (.int .i64 (hashL (pairT a b) : Nat)) ∧ Below w.heap.size w w' := by
  have HA := hid (fun W => digits_any a W (by omega) (by omega))
  have HB := hid (fun W => digits_any b W (by omega) (by omega))
  have hA := decN_le a ha
  have hB := decN_le b hb
  have hT : pairT a b = bytesOf ((⟨(Go.Lib.decDigits a).toArray⟩ : ByteArray) ++ ⟨#[47]⟩ ++ ⟨(Go.Lib.decDigits b).toArray⟩) := by
    rw [pairT_app, Go.Lib.itoa_nonneg, Go.Lib.itoa_nonneg, bytesOf_append, bytesOf_append]
    rfl
  rw [hT]
  clear hT
  generalize (⟨(Go.Lib.decDigits a).toArray⟩ : ByteArray) = A at *
  generalize (⟨(Go.Lib.decDigits b).toArray⟩ : ByteArray) = B at *
  obtain ⟨S1, hS1⟩ : ∃ S1 : ByteArray, S1 = A ++ ⟨#[47]⟩ := ⟨_, rfl⟩
  have hz1 : S1.size ≤ 21 := by rw [hS1, size_cat]; show A.size + 1 ≤ _; omega
  rw [← hS1]
  obtain ⟨S2, hS2⟩ : ∃ S2 : ByteArray, S2 = S1 ++ B := ⟨_, rfl⟩
  have hz2 : S2.size ≤ 41 := by rw [hS2, size_cat]; omega
  rw [← hS2]
  have q1 := cat_run A ⟨#[47]⟩ S1 (by show A.size + 1 ≤ _; omega) hS1
  have q2 := cat_run S1 B S2 (by omega) hS2
  have HH := hid (fun W => rhash_any S2 W (by omega))
  clear hS1 hS2 hz1 hz2 hA hB
  generalize hashL (bytesOf S2) = h at *
  go_enter Tryd.func65, Tryd.ntmps65
  go_wp2_with fail
  refine (HA.out w).mono ?_
  rintro e w1 ⟨rfl, hb1⟩
  have hz1 := hb1.size
  go_wp2_with fail
  refine (HB.out w1).mono ?_
  rintro e w2 ⟨rfl, hb2⟩
  have Hb2 := hid (Below.step hb1 hb2 hz1)
  have hz2 := Hb2.out.size
  clear hb1 hb2
  go_wp2_with fail
  refine (HH.out w2).mono ?_
  rintro e w3 ⟨rfl, hb3⟩
  go_wp2_with fail
  go_ret
  exact ⟨rfl, Below.step Hb2.out hb3 hz2⟩

theorem oneT_app (k v : Nat) (g : Bool) (t : ByteArray) : oneT k v g t = bytesOf ((⟨(Go.Lib.decDigits k).toArray⟩ : ByteArray) ++ ⟨#[47]⟩ ++ ⟨(Go.Lib.decDigits v).toArray⟩ ++ ⟨#[47]⟩ ++ ⟨#[if g then 49 else 48]⟩ ++ ⟨#[47]⟩ ++ t) := by
  have hg : Go.Lib.itoa (if g then 1 else 0) = [if g then 49 else 48] := by
    cases g
    · show Go.Lib.itoa ((0 : Nat) : Int) = _
      rw [Go.Lib.itoa_nonneg, Go.Lib.decDigits, dif_pos (by decide)]; rfl
    · show Go.Lib.itoa ((1 : Nat) : Int) = _
      rw [Go.Lib.itoa_nonneg, Go.Lib.decDigits, dif_pos (by decide)]; rfl
  rw [oneT, hg, Go.Lib.join_cons, Go.Lib.itoa_nonneg, Go.Lib.itoa_nonneg]
  simp only [bytesOf_append]
  show _ = Go.Lib.decDigits k ++ [47] ++ Go.Lib.decDigits v ++ [47] ++ [if g then 49 else 48] ++ [47] ++ bytesOf t
  simp [Go.Lib.joinTail]

set_option maxHeartbeats 2000000 in
set_option maxRecDepth 100000 in
theorem rone_any (k v : Nat) (a : Int) (g : Bool) (t : ByteArray) (hk : k < 4294967296) (hv : v < 4294967296) (h12 : t.size ≤ 12) (w : World) :
    Calls Tryd.prog 64 #[.agg #[.int .i64 k, .int .i64 v, .int .i64 a, .bool g, .string t]] w fun e w' => e = .returned (.int .i64 (hashL (oneT k v g t) : Nat)) ∧ Below w.heap.size w w' := by
  have HA := hid (fun W => digits_any k W (by omega) (by omega))
  have HB := hid (fun W => digits_any v W (by omega) (by omega))
  have hA := decN_le k hk
  have hB := decN_le v hv
  rw [oneT_app]
  generalize (⟨(Go.Lib.decDigits k).toArray⟩ : ByteArray) = A at *
  generalize (⟨(Go.Lib.decDigits v).toArray⟩ : ByteArray) = B at *
  obtain ⟨G, hG⟩ : ∃ G : ByteArray, G = ⟨#[if g then 49 else 48]⟩ := ⟨_, rfl⟩
  have hGz : G.size = 1 := by rw [hG]; rfl
  rw [← hG]
  obtain ⟨S1, hS1⟩ : ∃ S1 : ByteArray, S1 = A ++ ⟨#[47]⟩ := ⟨_, rfl⟩
  have hz1 : S1.size = A.size + 1 := by rw [hS1, size_cat]; rfl
  rw [← hS1]
  obtain ⟨S2, hS2⟩ : ∃ S2 : ByteArray, S2 = S1 ++ B := ⟨_, rfl⟩
  have hz2 : S2.size = S1.size + B.size := by rw [hS2, size_cat]
  rw [← hS2]
  obtain ⟨S3, hS3⟩ : ∃ S3 : ByteArray, S3 = S2 ++ ⟨#[47]⟩ := ⟨_, rfl⟩
  have hz3 : S3.size = S2.size + 1 := by rw [hS3, size_cat]; rfl
  rw [← hS3]
  obtain ⟨S4, hS4⟩ : ∃ S4 : ByteArray, S4 = S3 ++ G := ⟨_, rfl⟩
  have hz4 : S4.size = S3.size + 1 := by rw [hS4, size_cat, hGz]
  rw [← hS4]
  obtain ⟨S5, hS5⟩ : ∃ S5 : ByteArray, S5 = S4 ++ ⟨#[47]⟩ := ⟨_, rfl⟩
  have hz5 : S5.size = S4.size + 1 := by rw [hS5, size_cat]; rfl
  rw [← hS5]
  obtain ⟨S6, hS6⟩ : ∃ S6 : ByteArray, S6 = S5 ++ t := ⟨_, rfl⟩
  have hz6 : S6.size = S5.size + t.size := by rw [hS6, size_cat]
  rw [← hS6]
  have q1 := cat_run A ⟨#[47]⟩ S1 (by show A.size + 1 ≤ _; omega) hS1
  have q2 := cat_run S1 B S2 (by omega) hS2
  have q3 := cat_run S2 ⟨#[47]⟩ S3 (by show S2.size + 1 ≤ _; omega) hS3
  have q4 := cat_run S3 G S4 (by omega) hS4
  have q5 := cat_run S4 ⟨#[47]⟩ S5 (by show S4.size + 1 ≤ _; omega) hS5
  have q6 := cat_run S5 t S6 (by omega) hS6
  have HH := hid (fun W => rhash_any S6 W (by omega))
  clear hS1 hS2 hS3 hS4 hS5 hS6 hz1 hz2 hz3 hz4 hz5 hz6 hA hB hGz h12
  generalize hashL (bytesOf S6) = h at *
  have HG := hid hG
  clear hG
  obtain ⟨wA, hwA⟩ : ∃ wA : World, wA = w.alloc (.cells #[.int .i64 k, .int .i64 v, .int .i64 a, .bool g, .string t] 26) := ⟨_, rfl⟩
  have hX : Blk wA w.heap.size 26 #[.int .i64 k, .int .i64 v, .int .i64 a, .bool g, .string t] := by rw [hwA]; exact Blk.new _ _ _
  have hbA : Below w.heap.size w wA := by rw [hwA]; (repeat (first | with_reducible exact Below.refl _ _ | with_reducible assumption | (with_reducible refine Below.drew ?_) | (with_reducible refine Below.manyDrew ?_ _) | ((with_reducible refine Below.alloc ?_ ?_ _); rotate_left; (focus (first | omega | (dsimp only; omega) | (simp; done) | (simp; omega)))) | ((with_reducible refine Below.setCell ?_ ?_ _); rotate_left; (focus (first | omega | (dsimp only; omega) | (simp; done) | (simp; omega)))) | ((with_reducible refine Below.step ?_ (by assumption) ?_); rotate_left; (focus (first | omega | (dsimp only; omega) | (simp; done) | (simp; omega))))))
  have hzA := hbA.size
  have hltA := hX.lt
  have HX := hid hX
  have HbA := hid hbA
  have HwA := hid hwA
  have c0 : wA.cell? ⟨w.heap.size, 0, none⟩ = some (.int .i64 k) := hX.cell 0
  clear hX hbA hwA
  go_enter Tryd.func64, Tryd.ntmps64
  go_upto_region 1 with fail
  rw [← HwA.out]
  go_wp2_with fail
  refine (HA.out wA).mono ?_
  rintro e w1 ⟨rfl, hb1⟩
  have hz1 := hb1.size
  have hX1 := HX.out.belowS hb1
  have c1 : w1.cell? ⟨w.heap.size, 1, none⟩ = some (.int .i64 v) := hX1.cell 1
  have HX1 := hid hX1
  have Hb1 := hid (Below.step HbA.out hb1 hzA)
  clear hX1 hb1
  go_wp2_with fail
  refine (HB.out w1).mono ?_
  rintro e w2 ⟨rfl, hb2⟩
  have Hb2 := hid (Below.step Hb1.out hb2 (by omega))
  have hz2 := hb2.size
  have hX2 := HX1.out.belowS hb2
  have c3 : w2.cell? ⟨w.heap.size, 3, none⟩ = some (.bool g) := hX2.cell 3
  have c4 : w2.cell? ⟨w.heap.size, 4, none⟩ = some (.string t) := hX2.cell 4
  have hl2 := hX2.lt
  clear hb2 hX2
  cases g
  · obtain rfl : G = ⟨#[48]⟩ := HG.out
    go_wp2_with fail
    refine (HH.out w2).mono ?_
    rintro e w3 ⟨rfl, hb3⟩
    go_wp2_with fail
    go_ret
    exact ⟨rfl, Below.step Hb2.out hb3 (by omega)⟩
  · obtain rfl : G = ⟨#[49]⟩ := HG.out
    go_wp2_with fail
    refine (HH.out w2).mono ?_
    rintro e w3 ⟨rfl, hb3⟩
    go_wp2_with fail
    go_ret
    exact ⟨rfl, Below.step Hb2.out hb3 (by omega)⟩
end Go.Proofs.YthjbebngedajiaaDoor
