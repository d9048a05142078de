/-
  THE CONTRACTS of the reference's Digits, Hash, One, Pair (package mereref1). CONDITIONS: texts of at most 1000 bytes; numbers from 0 on.
  THE CONTRACTS of the reference's One and Pair (package mereref1). CONDITIONS: numbers from 0 on, texts of at most 12 bytes.
-/
import Derived.Test.YtemhdfodghfkfaaGreatDoorHEnt
namespace Go.Proofs.YtemhdfodghfkfaaGreatDoor
open Go.RowKit
open Go.ChangeShapes Go.WideShapes Go.ChangeAt

def digs : ByteArray := ⟨#[48, 49, 50, 51, 52, 53, 54, 55, 56, 57]⟩
theorem digs_fin : ∀ k : Fin 10, (digs.extract k.val (k.val + 1)).data.toList = [UInt8.ofNat (48 + k.val)] := by decide +kernel
theorem digs_at {k : Nat} (hk : k < 10) : bytesOf (digs.extract k (k + 1)) = [UInt8.ofNat (48 + k)] := digs_fin ⟨k, hk⟩
theorem digs_mk {k : Nat} (hk : k < 10) : digs.extract k (k + 1) = ⟨[UInt8.ofNat (48 + k)].toArray⟩ := by
  have h := digs_at hk
  unfold bytesOf at h
  rw [← h]
theorem digs_size {k : Nat} (hk : k < 10) : (digs.extract k (k + 1)).size = 1 := by rw [digs_mk hk]; rfl
theorem decDigits_big {n : Nat} (h : ¬ n < 10) : Go.Lib.decDigits n = Go.Lib.decDigits (n / 10) ++ [UInt8.ofNat (48 + n % 10)] := by rw [Go.Lib.decDigits, dif_neg h]
theorem decDigits_le {n : Nat} (h : n < 10000000000000000000) : (Go.Lib.decDigits n).length ≤ 20 := by
  rw [Go.Lib.decDigits_length]; exact Go.Lib.nDigits_le20 n (by omega)

set_option maxRecDepth 100000 in
theorem digits_any : ∀ (n : Nat) (w : World), n < 10000000000000000000 → n ≤ 9223372036854775806 →
    Calls Tryz.prog 9 #[.int .i64 n] w fun e w' => e = .returned (.string ⟨(Go.Lib.decDigits n).toArray⟩) ∧ Below w.heap.size w w' := by
  intro n
  induction n using Nat.strongRecOn with
  | _ n ih =>
    intro w hn hn2
    by_cases h : n < 10
    · rw [show (⟨(Go.Lib.decDigits n).toArray⟩ : ByteArray) = digs.extract n (n + 1) by rw [digs_mk h, Go.Lib.decDigits, dif_pos h]]
      go_enter Tryz.func9, Tryz.ntmps9
      go_wp2_with fail
      go_ret
      exact ⟨rfl, Below.refl _ _⟩
    · have HI := hid (ih (n / 10) (by omega) w (by omega) (by omega))
      obtain ⟨m, hm⟩ : ∃ m : Nat, n % 10 = m := ⟨_, rfl⟩
      have hm10 : m < 10 := by omega
      have hs : (⟨(Go.Lib.decDigits n).toArray⟩ : ByteArray) = ⟨(Go.Lib.decDigits (n / 10)).toArray⟩ ++ digs.extract m (m + 1) := by
        rw [digs_mk (by omega), decDigits_big h, ByteArray.mk_append_mk, hm]
      rw [hs]
      have hl := decDigits_le (n := n / 10) (by omega)
      obtain ⟨D, hD⟩ : ∃ D : ByteArray, D = ⟨(Go.Lib.decDigits (n / 10)).toArray⟩ := ⟨_, rfl⟩
      have hDz : D.size ≤ 20 := by rw [hD]; exact hl
      rw [← hD] at HI ⊢
      have q1 : ∀ W, (Op.stringOp .add D (digs.extract m (m + 1))).run Tryz.prog W = .ok (.string (D ++ digs.extract m (m + 1))) W := fun W => run_string_add_sum W D _ (by rw [digs_size (by omega)]; omega)
      have Hm := hid hm
      clear hs hl hD ih hm
      rw [show (((n / 10 : Nat)) : Int) = (n : Int) / 10 by omega] at HI
      go_enter Tryz.func9, Tryz.ntmps9
      go_wp2_with fail
      refine HI.out.mono ?_
      rintro e w1 ⟨rfl, hb1⟩
      rw [show (n : Int) % 10 = (m : Int) by have := Hm.out; omega]
      go_wp2_with fail
      go_ret
      exact ⟨rfl, hb1⟩

theorem w64 {n : Int} (h0 : 0 ≤ n) (h1 : n ≤ 255) : wrap64 n = n := by
  unfold wrap64
  omega
theorem rstep_plain {n c : Nat} (hc : c < 256) {x : Nat} (hx : x = ((n % 256) ^^^ c)) : (n - n % 256 + x) * 16777619 % 4294967296 = (n ^^^ c) * 16777619 % 4294967296 := by
  subst hx
  rw [← xor_low n c hc]

set_option maxHeartbeats 4000000 in
set_option maxRecDepth 100000 in
theorem rhash_any (s : ByteArray) (w : World) (hs : s.size ≤ 1000) : Calls Tryz.prog 62 #[.string s] w fun e w' => e = .returned (.int .i64 (hashL (bytesOf s) : Nat)) ∧ Below w.heap.size w w' := by
  go_enter Tryz.func62, Tryz.ntmps62
  go_wp2_with fail
  go_loopw [3, 4] (fun n i wr => ∃ j : Nat, j ≤ s.size ∧ i = .int .i64 j ∧ n = .int .i64 (hashL ((bytesOf s).take j) : Nat) ∧ Below w.heap.size w wr) (fun _ i _ => s.size - (intOf i).toNat)
  case atStart => exact ⟨0, Nat.zero_le _, rfl, rfl, Below.refl _ _⟩
  case round =>
    obtain ⟨j, hj, rfl, rfl, hbr⟩ := hrel
    by_cases hlt : j < s.size
    · have hst := hash_take s hlt
      have hn := hash_lt ((bytesOf s).take j)
      generalize hashL ((bytesOf s).take j) = n at *
      have Hst := hid hst
      clear hst
      have hci : (wrap64 (s[j].toNat : Int)) = ((bytesOf s).getD j 0).toNat := by
        have h1 := s[j].toNat_lt
        rw [show (bytesOf s).getD j 0 = s[j] from (Go.Lib.getD_at s j hlt).symm]
        rw [wrap64]
        omega
      have hc256 := ((bytesOf s).getD j 0).toNat_lt
      obtain ⟨L, hL⟩ : ∃ L : Nat, n % 256 = L := ⟨_, rfl⟩
      have hL256 : L < 256 := by omega
      have HL := hid hL
      have hnL : ((n : Int) % 256) = (L : Int) := by omega
      unfold hstep at Hst
      go_wp2_with fail
      rw [hci, hnL]
      clear hnL hL
      generalize ((bytesOf s).getD j 0).toNat = c at *
      go_loopw [7, 8, 9] (fun x p i wq => ∃ k : Nat, k ≤ 8 ∧ i = .int .i64 k ∧ p = .int .i64 (2 ^ k : Nat) ∧ x = .int .i64 ((L ^^^ c) % 2 ^ k : Nat) ∧ Below w.heap.size w wq) (fun _ _ i _ => 8 - (intOf i).toNat)
      case atStart => exact ⟨0, by omega, rfl, rfl, by simp [Nat.mod_one], hbr⟩
      case round =>
        obtain ⟨k, hk, rfl, rfl, rfl, hbq⟩ := hrel
        by_cases hk8 : k < 8
        · have hg := xor_gather L c k
          have hp1 : 1 ≤ 2 ^ k := Nat.one_le_two_pow
          have hp2 : 2 ^ k ≤ 128 := by
            have : 2 ^ k ≤ 2 ^ 7 := Nat.pow_le_pow_right (by decide) (by omega)
            exact this
          have hps : 2 ^ (k + 1) = 2 * 2 ^ k := by rw [Nat.pow_succ, Nat.mul_comm]
          have hxl : (L ^^^ c) % 2 ^ k < 2 ^ k := Nat.mod_lt _ (by omega)
          have Hps := hid hps
          rw [hps] at hg
          have hq1 : ((L / 2 ^ k : Nat) : Int) = (L : Int) / ((2 ^ k : Nat) : Int) := Int.natCast_ediv _ _
          have hq2 : ((c / 2 ^ k : Nat) : Int) = (c : Int) / ((2 ^ k : Nat) : Int) := Int.natCast_ediv _ _
          have hd1 : L / 2 ^ k ≤ 255 := Nat.le_trans (Nat.div_le_self _ _) (by omega)
          have hd2 : c / 2 ^ k ≤ 255 := Nat.le_trans (Nat.div_le_self _ _) (by omega)
          have hm1 := Nat.mod_two_eq_zero_or_one (L / 2 ^ k)
          have hm2 := Nat.mod_two_eq_zero_or_one (c / 2 ^ k)
          generalize (L ^^^ c) % 2 ^ k = X at *
          generalize 2 ^ k = P at *
          generalize L / P = d1 at *
          generalize c / P = d2 at *
          have e1 : ∀ v : Int, (v = 0 ∧ d1 % 2 = 0) ∨ (v = 1 ∧ d1 % 2 = 1) → (wrap64 ((L : Int) / (P : Int))).tmod 2 = v := by
            intro v hv
            rw [← hq1, w64 (by omega) (by omega), Int.tmod_eq_emod_of_nonneg (Int.natCast_nonneg _)]
            clear hq1 hq2 hg hxl hps Hps
            omega
          have e2 : ∀ v : Int, (v = 0 ∧ d2 % 2 = 0) ∨ (v = 1 ∧ d2 % 2 = 1) → (wrap64 ((c : Int) / (P : Int))).tmod 2 = v := by
            intro v hv
            rw [← hq2, w64 (by omega) (by omega), Int.tmod_eq_emod_of_nonneg (Int.natCast_nonneg _)]
            clear hq1 hq2 hg hxl hps Hps e1
            omega
          have Hg := hid hg
          have hq0 : ¬ (P : Int) = 0 := by omega
          clear hg hps hq1 hq2 hd1 hd2
          go_upto_region 12 with fail
          go_region
          rcases hm1 with h1 | h1 <;> rcases hm2 with h2 | h2
          all_goals
            rw [h1, h2] at Hg
            first | rw [e1 0 (.inl ⟨rfl, h1⟩)] | rw [e1 1 (.inr ⟨rfl, h1⟩)]
            first | rw [e2 0 (.inl ⟨rfl, h2⟩)] | rw [e2 1 (.inr ⟨rfl, h2⟩)]
            clear e1 e2 h1 h2
            go_wp2_with fail
            go_roundw
            case rel => exact ⟨k + 1, by omega, by go_num, by rw [Hps.out]; go_num, by rw [Hps.out, Hg.out]; go_num, Below.drew hbq⟩
            case measure => simp [intOf]; omega
        · obtain rfl : k = 8 := by omega
          rw [xor_gathered (by omega) (by omega)]
          have hxl := Nat.xor_lt_two_pow (n := 8) hL256 (show c < 2 ^ 8 by omega)
          have hfin := rstep_plain (n := n) hc256 (x := L ^^^ c) (by rw [HL.out])
          have hle : n % 256 ≤ n := Nat.mod_le _ _
          have hLn : (L : Int) ≤ (n : Int) := by have := HL.out; omega
          rw [HL.out] at hfin
          generalize L ^^^ c = X at *
          have Hfin := hid hfin
          clear hfin hle
          go_wp2_with fail
          go_roundw
          case rel => exact ⟨j + 1, by omega, by go_num, by rw [Hst.out, ← Hfin.out]; go_num, hbq⟩
          case measure => simp [intOf]; omega
    · obtain rfl : j = s.size := by omega
      have HF := hid (show hashL ((bytesOf s).take s.size) = hashL (bytesOf s) by rw [← bytesOf_len, List.take_length])
      go_wp2_with fail
      go_ret
      exact ⟨by rw [HF.out]; rfl, hbr⟩
end Go.Proofs.YtemhdfodghfkfaaGreatDoor
namespace Go.Proofs.YtemhdfodghfkfaaGreatDoor
open Go.RowKit
open Go.ChangeShapes Go.WideShapes Go.ChangeAt

theorem pairT_app (a b : Int) : pairT a b = Go.Lib.itoa a ++ [47] ++ Go.Lib.itoa b := by
  rw [pairT, Go.Lib.join_cons]; simp [Go.Lib.joinTail]
theorem cat_run (x y z : ByteArray) (h : x.size + y.size ≤ 1000000) (hz : z = x ++ y) (W : World) : (Op.stringOp .add x y).run Tryz.prog W = .ok (.string z) W := by
  rw [run_string_add_sum W x y (by omega), hz]
theorem size_cat (x y : ByteArray) : (x ++ y).size = x.size + y.size := by rw [← bytesOf_len, bytesOf_append, List.length_append, bytesOf_len, bytesOf_len]
theorem decN_le (n : Nat) (h : n < 4294967296) : (⟨(Go.Lib.decDigits n).toArray⟩ : ByteArray).size ≤ 20 := decDigits_le (by omega)

set_option maxRecDepth 100000 in
theorem rpair_any (a b : Nat) (ha : a < 4294967296) (hb : b < 4294967296) (w : World) :
    Calls Tryz.prog 38 #[.int .i64 a, .int .i64 b] w fun e w' => e = .returned (.int .i64 (hashL (pairT a b) : Nat)) ∧ Below w.heap.size w w' := by
  have HA := hid (fun W => digits_any a W (by omega) (by omega))
  have HB := hid (fun W => digits_any b W (by omega) (by omega))
  have hA := decN_le a ha
  have hB := decN_le b hb
  have hT : pairT a b = bytesOf ((⟨(Go.Lib.decDigits a).toArray⟩ : ByteArray) ++ ⟨#[47]⟩ ++ ⟨(Go.Lib.decDigits b).toArray⟩) := by
    rw [pairT_app, Go.Lib.itoa_nonneg, Go.Lib.itoa_nonneg, bytesOf_append, bytesOf_append]
    rfl
  rw [hT]
  clear hT
  generalize (⟨(Go.Lib.decDigits a).toArray⟩ : ByteArray) = A at *
  generalize (⟨(Go.Lib.decDigits b).toArray⟩ : ByteArray) = B at *
  obtain ⟨S1, hS1⟩ : ∃ S1 : ByteArray, S1 = A ++ ⟨#[47]⟩ := ⟨_, rfl⟩
  have hz1 : S1.size ≤ 21 := by rw [hS1, size_cat]; show A.size + 1 ≤ _; omega
  rw [← hS1]
  obtain ⟨S2, hS2⟩ : ∃ S2 : ByteArray, S2 = S1 ++ B := ⟨_, rfl⟩
  have hz2 : S2.size ≤ 41 := by rw [hS2, size_cat]; omega
  rw [← hS2]
  have q1 := cat_run A ⟨#[47]⟩ S1 (by show A.size + 1 ≤ _; omega) hS1
  have q2 := cat_run S1 B S2 (by omega) hS2
  have HH := hid (fun W => rhash_any S2 W (by omega))
  clear hS1 hS2 hz1 hz2 hA hB
  generalize hashL (bytesOf S2) = h at *
  go_enter Tryz.func38, Tryz.ntmps38
  go_wp2_with fail
  refine (HA.out w).mono ?_
  rintro e w1 ⟨rfl, hb1⟩
  have hz1 := hb1.size
  go_wp2_with fail
  refine (HB.out w1).mono ?_
  rintro e w2 ⟨rfl, hb2⟩
  have Hb2 := hid (Below.step hb1 hb2 hz1)
  have hz2 := Hb2.out.size
  clear hb1 hb2
  go_wp2_with fail
  refine (HH.out w2).mono ?_
  rintro e w3 ⟨rfl, hb3⟩
  go_wp2_with fail
  go_ret
  exact ⟨rfl, Below.step Hb2.out hb3 hz2⟩

theorem oneT_app (k v : Nat) (g : Bool) (t : ByteArray) : oneT k v g t = bytesOf ((⟨(Go.Lib.decDigits k).toArray⟩ : ByteArray) ++ ⟨#[47]⟩ ++ ⟨(Go.Lib.decDigits v).toArray⟩ ++ ⟨#[47]⟩ ++ ⟨#[if g then 49 else 48]⟩ ++ ⟨#[47]⟩ ++ t) := by
  have hg : Go.Lib.itoa (if g then 1 else 0) = [if g then 49 else 48] := by
    cases g
    · show Go.Lib.itoa ((0 : Nat) : Int) = _
      rw [Go.Lib.itoa_nonneg, Go.Lib.decDigits, dif_pos (by decide)]; rfl
    · show Go.Lib.itoa ((1 : Nat) : Int) = _
      rw [Go.Lib.itoa_nonneg, Go.Lib.decDigits, dif_pos (by decide)]; rfl
  rw [oneT, hg, Go.Lib.join_cons, Go.Lib.itoa_nonneg, Go.Lib.itoa_nonneg]
  simp only [bytesOf_append]
  show _ = Go.Lib.decDigits k ++ [47] ++ Go.Lib.decDigits v ++ [47] ++ [if g then 49 else 48] ++ [47] ++ bytesOf t
  simp [Go.Lib.joinTail]

set_option maxHeartbeats 2000000 in
set_option maxRecDepth 100000 in
theorem rone_any (k v : Nat) (a : Int) (g : Bool) (t : ByteArray) (hk : k < 4294967296) (hv : v < 4294967296) (h12 : t.size ≤ 12) (w : World) :
    Calls Tryz.prog 119 #[.agg #[.int .i64 k, .int .i64 v, .int .i64 a, .bool g, .string t]] w fun e w' => e = .returned (.int .i64 (hashL (oneT k v g t) : Nat)) ∧ Below w.heap.size w w' := by
  have HA := hid (fun W => digits_any k W (by omega) (by omega))
  have HB := hid (fun W => digits_any v W (by omega) (by omega))
  have hA := decN_le k hk
  have hB := decN_le v hv
  rw [oneT_app]
  generalize (⟨(Go.Lib.decDigits k).toArray⟩ : ByteArray) = A at *
  generalize (⟨(Go.Lib.decDigits v).toArray⟩ : ByteArray) = B at *
  obtain ⟨G, hG⟩ : ∃ G : ByteArray, G = ⟨#[if g then 49 else 48]⟩ := ⟨_, rfl⟩
  have hGz : G.size = 1 := by rw [hG]; rfl
  rw [← hG]
  obtain ⟨S1, hS1⟩ : ∃ S1 : ByteArray, S1 = A ++ ⟨#[47]⟩ := ⟨_, rfl⟩
  have hz1 : S1.size = A.size + 1 := by rw [hS1, size_cat]; rfl
  rw [← hS1]
  obtain ⟨S2, hS2⟩ : ∃ S2 : ByteArray, S2 = S1 ++ B := ⟨_, rfl⟩
  have hz2 : S2.size = S1.size + B.size := by rw [hS2, size_cat]
  rw [← hS2]
  obtain ⟨S3, hS3⟩ : ∃ S3 : ByteArray, S3 = S2 ++ ⟨#[47]⟩ := ⟨_, rfl⟩
  have hz3 : S3.size = S2.size + 1 := by rw [hS3, size_cat]; rfl
  rw [← hS3]
  obtain ⟨S4, hS4⟩ : ∃ S4 : ByteArray, S4 = S3 ++ G := ⟨_, rfl⟩
  have hz4 : S4.size = S3.size + 1 := by rw [hS4, size_cat, hGz]
  rw [← hS4]
  obtain ⟨S5, hS5⟩ : ∃ S5 : ByteArray, S5 = S4 ++ ⟨#[47]⟩ := ⟨_, rfl⟩
  have hz5 : S5.size = S4.size + 1 := by rw [hS5, size_cat]; rfl
  rw [← hS5]
  obtain ⟨S6, hS6⟩ : ∃ S6 : ByteArray, S6 = S5 ++ t := ⟨_, rfl⟩
  have hz6 : S6.size = S5.size + t.size := by rw [hS6, size_cat]
  rw [← hS6]
  have q1 := cat_run A ⟨#[47]⟩ S1 (by show A.size + 1 ≤ _; omega) hS1
  have q2 := cat_run S1 B S2 (by omega) hS2
  have q3 := cat_run S2 ⟨#[47]⟩ S3 (by show S2.size + 1 ≤ _; omega) hS3
  have q4 := cat_run S3 G S4 (by omega) hS4
  have q5 := cat_run S4 ⟨#[47]⟩ S5 (by show S4.size + 1 ≤ _; omega) hS5
  have q6 := cat_run S5 t S6 (by omega) hS6
  have HH := hid (fun W => rhash_any S6 W (by omega))
  clear hS1 hS2 hS3 hS4 hS5 hS6 hz1 hz2 hz3 hz4 hz5 hz6 hA hB hGz h12
  generalize hashL (bytesOf S6) = h at *
  have HG := hid hG
  clear hG
  obtain ⟨wA, hwA⟩ : ∃ wA : World, wA = w.alloc (.cells #[.int .i64 k, .int .i64 v, .int .i64 a, .bool g, .string t] 59) := ⟨_, rfl⟩
  have hX : Blk wA w.heap.size 59 #[.int .i64 k, .int .i64 v, .int .i64 a, .bool g, .string t] := by rw [hwA]; exact Blk.new _ _ _
  have hbA : Below w.heap.size w wA := by rw [hwA]; (repeat (first | with_reducible exact Below.refl _ _ | with_reducible assumption | (with_reducible refine Below.drew ?_) | (with_reducible refine Below.manyDrew ?_ _) | ((with_reducible refine Below.alloc ?_ ?_ _); rotate_left; (focus (first | omega | (dsimp only; omega) | (simp; done) | (simp; omega)))) | ((with_reducible refine Below.setCell ?_ ?_ _); rotate_left; (focus (first | omega | (dsimp only; omega) | (simp; done) | (simp; omega)))) | ((with_reducible refine Below.step ?_ (by assumption) ?_); rotate_left; (focus (first | omega | (dsimp only; omega) | (simp; done) | (simp; omega))))))
  have hzA := hbA.size
  have hltA := hX.lt
  have HX := hid hX
  have HbA := hid hbA
  have HwA := hid hwA
  have c0 : wA.cell? ⟨w.heap.size, 0, none⟩ = some (.int .i64 k) := hX.cell 0
  clear hX hbA hwA
  go_enter Tryz.func119, Tryz.ntmps119
  go_upto_region 1 with fail
  rw [← HwA.out]
  go_wp2_with fail
  refine (HA.out wA).mono ?_
  rintro e w1 ⟨rfl, hb1⟩
  have hz1 := hb1.size
  have hX1 := HX.out.belowS hb1
  have c1 : w1.cell? ⟨w.heap.size, 1, none⟩ = some (.int .i64 v) := hX1.cell 1
  have HX1 := hid hX1
  have Hb1 := hid (Below.step HbA.out hb1 hzA)
  clear hX1 hb1
  go_wp2_with fail
  refine (HB.out w1).mono ?_
  rintro e w2 ⟨rfl, hb2⟩
  have Hb2 := hid (Below.step Hb1.out hb2 (by omega))
  have hz2 := hb2.size
  have hX2 := HX1.out.belowS hb2
  have c3 : w2.cell? ⟨w.heap.size, 3, none⟩ = some (.bool g) := hX2.cell 3
  have c4 : w2.cell? ⟨w.heap.size, 4, none⟩ = some (.string t) := hX2.cell 4
  have hl2 := hX2.lt
  clear hb2 hX2
  cases g
  · obtain rfl : G = ⟨#[48]⟩ := HG.out
    go_wp2_with fail
    refine (HH.out w2).mono ?_
    rintro e w3 ⟨rfl, hb3⟩
    go_wp2_with fail
    go_ret
    exact ⟨rfl, Below.step Hb2.out hb3 (by omega)⟩
  · obtain rfl : G = ⟨#[49]⟩ := HG.out
    go_wp2_with fail
    refine (HH.out w2).mono ?_
    rintro e w3 ⟨rfl, hb3⟩
    go_wp2_with fail
    go_ret
    exact ⟨rfl, Below.step Hb2.out hb3 (by omega)⟩
end Go.Proofs.YtemhdfodghfkfaaGreatDoor
