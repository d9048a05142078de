/-
  PROVED HERE: merelaw4.HintTen returns true for every two numbers: ten, and the first is lost. CONDITIONS: none.
-/
import Derived.Test.YtkokohlkjlgdkaaHint4
namespace Go.Proofs.Ytkokohlkjlgdkaa
open Go.RowKit
open Go.ChangeShapes Go.WideShapes Go.ChangeAt

/-- the hints of HintTen, one behind the other -/
def tenH (a i : Nat) : H := ⟨a + i / 8, i % 8, 1⟩
def tenL (a : Nat) (k : Nat) : List H := ((List.range k).map (tenH a)).drop (k - 10)
theorem tenL_length (a k : Nat) : (tenL a k).length = min k 10 := by
  unfold tenL; rw [List.length_drop, List.length_map, List.length_range]; omega
theorem tenL_mem {a k : Nat} {y : H} (h : y ∈ tenL a k) : ∃ i, i < k ∧ y = tenH a i := by
  have := List.mem_of_mem_drop h
  obtain ⟨i, hi, rfl⟩ := List.mem_map.1 this
  exact ⟨i, List.mem_range.1 hi, rfl⟩
theorem tenH_unlike {a i j : Nat} (h : i < j) (_hj : j < 16) : alikeH (tenH a j) (tenH a i) = false := by
  rw [← Bool.not_eq_true]
  intro hh
  simp only [alikeH, tenH, Bool.and_eq_true] at hh
  have h1 : (a : Int) + (i : Int) / 8 = (a : Int) + (j : Int) / 8 := of_decide_eq_true hh.1
  have h2 : (i : Int) % 8 = (j : Int) % 8 := of_decide_eq_true hh.2
  omega
theorem tenH_ok {a j : Nat} (ha : a ≤ 4) (hj : j < 16) : hintOk (tenH a j) = true := by
  rw [hintOk_true, nodeB_true, keyB_true]
  simp only [tenH]
  omega
theorem tenL_add {a k : Nat} (ha : a ≤ 4) (hk : k < 16) : addL (tenL a k) (tenH a k) = tenL a (k + 1) ∧ ∀ n, addN (tenL a k) n (tenH a k) = if 10 ≤ k then n + 1 else n := by
  have hun : ∀ y ∈ tenL a k, alikeH (tenH a k) y = false := fun y hy => by
    obtain ⟨i, hi, rfl⟩ := tenL_mem hy
    exact tenH_unlike hi hk
  have hno : (tenL a k).any (newerH (tenH a k)) = false := by
    rw [List.any_eq_false]
    intro y hy
    simp [newerH, hun y hy]
  have hput : putL (tenL a k) (tenH a k) = tenL a k ++ [tenH a k] := by
    unfold putL
    rw [filter_all (fun y hy => by simp [unlikeH, hun y hy])]
  have hlen := tenL_length a k
  have hr : (List.range (k + 1)).map (tenH a) = (List.range k).map (tenH a) ++ [tenH a k] := by rw [List.range_succ, List.map_append]; rfl
  have hrl : ((List.range k).map (tenH a)).length = k := by simp
  unfold addL addN
  rw [if_pos (tenH_ok ha hk), if_neg (by rw [hno]; decide), hput]
  by_cases h10 : 10 ≤ k
  · refine ⟨?_, fun n => ?_⟩
    · rw [if_pos (by rw [List.length_append, hlen, List.length_singleton]; omega)]
      unfold tenL
      rw [hr, List.drop_append_of_le_length (by rw [List.length_drop, hrl]; omega), List.drop_drop, List.drop_append_of_le_length (by rw [hrl]; omega), show k - 10 + 1 = k + 1 - 10 by omega]
    · rw [if_pos (tenH_ok ha hk), if_neg (by rw [hno]; decide), if_pos (by rw [List.length_append, hlen, List.length_singleton]; omega), if_pos h10]
  · refine ⟨?_, fun n => ?_⟩
    · rw [if_neg (by rw [List.length_append, hlen, List.length_singleton]; omega)]
      unfold tenL
      rw [hr, show k - 10 = 0 by omega, show k + 1 - 10 = 0 by omega, List.drop_zero, List.drop_zero]
    · rw [if_pos (tenH_ok ha hk), if_neg (by rw [hno]; decide), if_neg (by rw [List.length_append, hlen, List.length_singleton]; omega), if_neg h10]
theorem tenL_good (a k : Nat) (ha : a ≤ 4) (hk : k ≤ 16) : ∀ y ∈ tenL a k, y.good := fun y hy => by
  obtain ⟨i, hi, rfl⟩ := tenL_mem hy
  exact hintOk_good (tenH_ok ha (by omega))
theorem tenL_last {a k : Nat} (hk : 0 < k) : (tenL a k).getD ((tenL a k).length - 1) H.zero = tenH a (k - 1) := by
  have hl := tenL_length a k
  rw [getD_get _ (by omega)]
  unfold tenL at hl ⊢
  rw [List.getElem_drop, List.getElem_map, List.getElem_range]
  congr 1
  omega

set_option maxHeartbeats 4000000 in
set_option maxRecDepth 100000 in
theorem hintTen_in (a m : Nat) (ha : a ≤ 4) (hm : m ≤ 16) (w : World) :
    Calls Try.prog 4 #[.int .i64 a, .int .i64 m] w fun e w' => e = .returned (.bool true) ∧ Below w.heap.size w w' := by
  have Hstep := hid (fun k (hk : k < 16) => tenL_add (a := a) ha hk)
  have Hok := hid (fun k (hk : k < 16) => tenH_ok (a := a) (j := k) ha hk)
  have Hgood := hid (fun k (hk : k ≤ 16) => tenL_good a k ha hk)
  have Hlen := hid (fun k => tenL_length a k)
  have Hlast := hid (fun (h : 0 < m) => tenL_last (a := a) h)
  go_enter Try.func4, Try.ntmps4
  go_wp2_with fail
  refine (hnew_any _).mono ?_
  rintro e w1 ⟨rfl, hO1, hb1⟩
  go_wp2_with fail
  go_loopw [6] (fun i wr => ∃ (k : Nat) (v : Value), k ≤ m ∧ i = .int .i64 k ∧ HintsO w.heap.size wr w.heap.size v (tenL a k) ((k - 10 : Nat) : Int) ∧ Below w.heap.size w wr) (fun i _ => m - (intOf i).toNat)
  case atStart => exact ⟨0, _, Nat.zero_le _, rfl, hO1, hb1⟩
  case round =>
    obtain ⟨k, v, hk, rfl, hO, hbr⟩ := hrel
    have hz0 := hbr.size
    by_cases hlt : k < m
    · have hE : Hid (errV (addE (tenH a k)) = .nilIface) := hid (by rw [addE, if_pos (Hok.out k (by omega))]; rfl)
      obtain ⟨hs1, hs2⟩ := Hstep.out k (by omega)
      have Hs1 := hid hs1
      have Hs2 := hid (hs2 ((k - 10 : Nat) : Int))
      have HG := Hgood.out k (by omega)
      have HLn := Hlen.out k
      have hl10 : (tenL a k).length ≤ 10 := by omega
      have hl0 : (0 : Int) ≤ ((k - 10 : Nat) : Int) := by omega
      have hl1 : ((k - 10 : Nat) : Int) ≤ 1000000 := by omega
      have HO := hid hO
      clear hs1 hs2 HLn hO
      go_wp2_with fail
      refine (hadd_any _ _ _ w.heap.size w.heap.size v (tenL a k) _ _ HO.out HG hl10 hl0 hl1).mono ?_
      rw [show (⟨(a : Int) + (k : Int) / 8, (k : Int) % 8, 1⟩ : H) = tenH a k from rfl, hE.out, Hs1.out, Hs2.out]
      rintro e w2 ⟨v2, rfl, hO2, hf2, hF2⟩
      have hb2 : Below w.heap.size w w2 := hbr.trans (hF2.below0 hz0 (fun i hi => by
        rcases hi with rfl | hi
        · exact Nat.le_refl _
        · exact HO.out.2.1.ge i hi))
      have hlost : (if 10 ≤ k then ((k - 10 : Nat) : Int) + 1 else ((k - 10 : Nat) : Int)) = ((k + 1 - 10 : Nat) : Int) := by split <;> omega
      rw [hlost] at hO2
      have HO2 := hid hO2
      clear hlost hO2 hf2 hF2 HG hl10 hl0 hl1
      go_wp2_with fail
      go_roundw
      case rel => exact ⟨k + 1, v2, by omega, by go_num, HO2.out, hb2⟩
      case measure => simp [intOf]; omega
    · obtain rfl : k = m := by omega
      have HG := Hgood.out k (by omega)
      have HLn := Hlen.out k
      have hl10 : (tenL a k).length ≤ 10 := by omega
      have HLn' := hid HLn
      clear HLn
      go_wp2_with fail
      refine (hall_any w.heap.size w.heap.size v (tenL a k) _ _ hO HG hl10).mono ?_
      rintro e w2 ⟨r, rfl, hrx, hrA, _, hb2⟩
      have hO2 := hO.belowS hb2
      have hb3 : Below w.heap.size w w2 := hbr.trans (hb2.mono hz0)
      have hrl : r.xs.length = min k 10 := by rw [hrx, HLn'.out]
      have HO2 := hid hO2
      by_cases h10 : k < 10
      · have hlz : ((k - 10 : Nat) : Int) = 0 := by omega
        have hb0 : ((r.xs.length : Int) == (k : Int)) = true := by rw [beq_iff_eq]; omega
        rw [hlz] at HO2
        rcases Nat.eq_zero_or_pos k with h0 | h0
        · have hb00 : ((r.xs.length : Int) == 0) = true := by rw [beq_iff_eq]; omega
          have Hrl := hid hrl
          have H0 := hid h0
          have hk0 : ((k : Int) == 0) = true := by rw [beq_iff_eq]; omega
          clear hrl hrx hlz hO hO2 h0
          go_wp2_with fail
          refine (hlost_any w.heap.size w.heap.size v (tenL a k) 0 _ HO2.out).mono ?_
          rintro e w3 ⟨rfl, rfl⟩
          go_wp2_with fail
          go_ret
          exact ⟨rfl, hb3⟩
        · have hk0 : ((k : Int) == 0) = false := by rw [beq_eq_false_iff_ne]; omega
          obtain ⟨g, off, hA, hg, hcells⟩ := hrA.row (by omega)
          have hc := (hcells (r.xs.length - 1) (by omega)).c1
          rw [hrx, Hlast.out h0, ← hrx] at hc
          have hkey : (((tenH a (k - 1)).key) == ((k : Int) - 1) % 8) = true := by
            rw [beq_iff_eq]
            simp only [tenH]
            omega
          generalize (tenH a (k - 1)).key = q at *
          have hp1 : 1 ≤ r.xs.length := by omega
          have hp2 : r.xs.length ≤ 10 := by omega
          have Hrl := hid hrl
          rw [hA]
          clear hrl hrx hlz hO hO2 hA hcells
          go_wp2_with fail
          refine (hlost_any w.heap.size w.heap.size v (tenL a k) 0 _ HO2.out).mono ?_
          rintro e w3 ⟨rfl, rfl⟩
          go_wp2_with fail
          go_ret
          exact ⟨rfl, hb3⟩
      · have hlz : ((k - 10 : Nat) : Int) = (k : Int) - 10 := by omega
        have hb0 : ((r.xs.length : Int) == (k : Int) - ((k : Int) - 10)) = true := by rw [beq_iff_eq]; omega
        rw [hlz] at HO2
        have hk0 : ((k : Int) == 0) = false := by rw [beq_eq_false_iff_ne]; omega
        obtain ⟨g, off, hA, hg, hcells⟩ := hrA.row (by omega)
        have hc := (hcells (r.xs.length - 1) (by omega)).c1
        rw [hrx, Hlast.out (by omega), ← hrx] at hc
        have hkey : (((tenH a (k - 1)).key) == ((k : Int) - 1) % 8) = true := by
          rw [beq_iff_eq]
          simp only [tenH]
          omega
        generalize (tenH a (k - 1)).key = q at *
        have hp1 : 1 ≤ r.xs.length := by omega
        have hp2 : r.xs.length ≤ 10 := by omega
        have hk10 : 10 ≤ k := by omega
        have Hrl := hid hrl
        rw [hA]
        clear hrl hrx hlz hO hO2 hA hcells
        go_wp2_with fail
        refine (hlost_any w.heap.size w.heap.size v (tenL a k) _ _ HO2.out).mono ?_
        rintro e w3 ⟨rfl, rfl⟩
        go_wp2_with fail
        go_ret
        exact ⟨rfl, hb3⟩

set_option maxHeartbeats 4000000 in
set_option maxRecDepth 100000 in
theorem hintTen_out (a m : Int) (w : World) (h : a < 0 ∨ (0 ≤ a ∧ 4 < a) ∨ (0 ≤ a ∧ a ≤ 4 ∧ m < 0) ∨ (0 ≤ a ∧ a ≤ 4 ∧ 0 ≤ m ∧ 16 < m)) :
    Calls Try.prog 4 #[.int .i64 a, .int .i64 m] w fun e w' => e = .returned (.bool true) ∧ Below w.heap.size w w' := by
  rcases h with h | ⟨h, h'⟩ | ⟨h, h', h''⟩ | ⟨h, h', h'', h'''⟩
  all_goals
    go_enter Try.func4, Try.ntmps4
    go_wp2_with fail
    refine (hnew_any _).mono ?_
    rintro e w1 ⟨rfl, hO1, hb1⟩
    go_wp2_with fail
    refine (hall_any w.heap.size w.heap.size _ [] 0 _ hO1 (by simp) (by simp)).mono ?_
    rintro e w2 ⟨r, rfl, hrx, hrA, _, hb2⟩
    have hl0 : ((r.xs.length : Int) == 0) = true := by rw [hrx]; rfl
    have hO2 := hO1.belowS hb2
    have hb3 : Below w.heap.size w w2 := hb1.trans (hb2.mono hb1.size)
    clear hrx
    go_wp2_with fail
    refine (hlost_any w.heap.size w.heap.size _ [] 0 _ hO2).mono ?_
    rintro e w3 ⟨rfl, rfl⟩
    go_wp2_with fail
    go_ret
    exact ⟨rfl, hb3⟩

set_option maxRecDepth 100000 in
theorem hintTen_walk : LawWalk Try.prog 4 Try.f4 (fun _ => True) := by
  intro W base args H enc ds p hval hA _
  rw [Try.params4] at hA hval
  obtain ⟨v0, v1, d0, d1, p0, p1, rfl, rfl, rfl, h0, h1⟩ := trodAll_two hA
  obtain ⟨a, rfl, _⟩ := arg_int Try.underlying3 (hval 0 3 v0 rfl rfl) h0
  obtain ⟨m, rfl, _⟩ := arg_int Try.underlying3 (hval 1 3 v1 rfl rfl) h1
  by_cases h : (0 ≤ a ∧ a ≤ 4) ∧ 0 ≤ m ∧ m ≤ 16
  · obtain ⟨a', rfl⟩ := Int.eq_ofNat_of_zero_le h.1.1
    obtain ⟨m', rfl⟩ := Int.eq_ofNat_of_zero_le h.2.1
    exact hintTen_in a' m' (by omega) (by omega) W
  · exact hintTen_out a m W (by omega)

set_option maxRecDepth 100000 in
theorem hintTen_lifted (os : Os) (started : os.Started) (H : Type) (enc : TypeId × Value → H) :
    ReturnsInHanded {} Try.checked os 4 .any (Rows.hintTenSpec.pre6 enc Try.prog Try.f4 Rows.hintTenRow.domain false) (Rows.hintTenSpec.post enc Try.prog Try.f4 false true false false) :=
  law_lifted (C := Try.checked) Rows.hintTenRow.domain Try.own started (by kernel_rfl) Try.func4 Try.laidOut (by kernel_rfl) rfl Try.underlying4 rfl (fun ds h => by match ds, h with | [_, _], _ => rfl)
    (ChangeSpec.witness6 (enc := enc) (C := Try.checked) false ⟨#[], #[.int .i64 0, .int .i64 0], []⟩ 8 (by kernel_rfl) (by kernel_rfl) (by kernel_rfl) (by kernel_rfl)) hintTen_walk

theorem hintTen_holds : Rows.HintTenSaid :=
  OpenClaim.holds_of_wide 4 Try.f4 rfl rfl rfl rfl rfl rfl rfl ⟨rfl, rfl, rfl, rfl, rfl⟩ rfl rfl rfl rfl rfl (by kernel_rfl) Try.func4 (by kernel_rfl)
    (of_decide_eq_true (by kernel_rfl)) (by unfold Func.isWrapper; rw [if_neg (of_decide_eq_false (by kernel_rfl))]; exact ⟨rfl, rfl⟩)
    (fun os started H enc _ => hintTen_lifted os started H enc)

end Go.Proofs.Ytkokohlkjlgdkaa
