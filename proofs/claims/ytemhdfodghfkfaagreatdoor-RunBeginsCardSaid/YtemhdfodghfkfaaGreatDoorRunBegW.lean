/-
  merelaw3.RunBegins: the walk. CONDITIONS: the library's variables read as they are laid (Tr).
-/
import Derived.Test.YtemhdfodghfkfaaGreatDoorRunRun
namespace Go.Proofs.YtemhdfodghfkfaaGreatDoor
open Go.RowKit
open Go.ChangeShapes Go.WideShapes Go.ChangeAt

def factI : Tx := [112, 117, 116, 32, 48, 32, 51, 32, 120, 10, 103, 101, 116, 32, 49, 32, 51, 32, 48, 10, 112, 117, 116, 32, 48, 32, 51, 32, 121, 10, 103, 101, 116, 32, 49, 32, 51, 32, 49, 10, 103, 101, 116, 32, 49, 32, 51, 32, 50, 10, 102, 108, 121, 10, 100, 101, 108, 101, 116, 101, 32, 50, 32, 51, 10, 103, 101, 116, 32, 48, 32, 51, 32, 48, 10, 115, 101, 113, 10, 99, 97, 99, 104, 101, 32, 50, 10, 115, 119, 97, 112, 32, 48, 32, 48, 10]
def factO : Tx := [49, 10, 49, 45, 49, 32, 120, 10, 50, 10, 49, 45, 49, 32, 120, 32, 99, 97, 99, 104, 101, 100, 10, 50, 45, 50, 32, 121, 10, 98, 97, 100, 10, 51, 10, 50, 45, 50, 32, 121, 32, 99, 97, 99, 104, 101, 100, 10, 51, 10, 51, 10, 69, 114, 114, 83, 104, 97, 112, 101, 10]
theorem fact_is : runT factI = factO := by decide +kernel
theorem mkB_take (t : Tx) (k : Nat) : (mkB t).extract 0 k = mkB (t.take k) := by
  apply ByteArray.ext
  rw [ByteArray.data_extract]
  show t.toArray.extract 0 k = (t.take k).toArray
  simp
theorem mkB_extract (A r : Tx) : (mkB (A ++ r)).extract 0 A.length = mkB A := by rw [mkB_take, List.take_left']; rfl
theorem mkB_getI (t : Tx) (k : Nat) (hk : k < t.length) (h : k < (mkB t).size) : (mkB t)[k]'h = t[k]'hk := rfl
theorem last10 (t : Tx) (k : Nat) (hk : k < t.length) {h : k < (mkB t).size} (hb : (((mkB t)[k].toNat : Int) == 10) = true) : (t.take (k + 1)).getLast? = some 10 := by
  rw [List.take_succ_eq_append_getElem hk, List.getLast?_concat]
  rw [mkB_getI t k hk h] at hb
  have h1 : ((t[k].toNat : Nat) : Int) = 10 := eq_of_beq hb
  have h2 : t[k] = 10 := UInt8.toNat_inj.1 (by show t[k].toNat = 10; omega)
  exact congrArg some h2
set_option maxHeartbeats 4000000 in
set_option maxRecDepth 100000 in
theorem begins_any (t : Tx) (hl : t.length ≤ maxLen) (many : Int) (w : World) (hT : Tr w) :
    Calls Tryz.prog 4 #[.string (mkB t), .int .i64 many] w fun e w' => e = .returned (.bool true) ∧ Below w.heap.size w w' := by
  have hsz := mkB_size t
  have HR := hid (fun (s : Tx) (hs : s.length ≤ maxLen) W (hW : Below w.heap.size w W) => run_any s hs W (hT.belowS hW))
  have HF := hid (show Calls Tryz.prog 6 #[.string ⟨#[112, 117, 116, 32, 48, 32, 51, 32, 120, 10, 103, 101, 116, 32, 49, 32, 51, 32, 48, 10, 112, 117, 116, 32, 48, 32, 51, 32, 121, 10, 103, 101, 116, 32, 49, 32, 51, 32, 49, 10, 103, 101, 116, 32, 49, 32, 51, 32, 50, 10, 102, 108, 121, 10, 100, 101, 108, 101, 116, 101, 32, 50, 32, 51, 10, 103, 101, 116, 32, 48, 32, 51, 32, 48, 10, 115, 101, 113, 10, 99, 97, 99, 104, 101, 32, 50, 10, 115, 119, 97, 112, 32, 48, 32, 48, 10]⟩] w (fun e w' => e = .returned (.string ⟨#[49, 10, 49, 45, 49, 32, 120, 10, 50, 10, 49, 45, 49, 32, 120, 32, 99, 97, 99, 104, 101, 100, 10, 50, 45, 50, 32, 121, 10, 98, 97, 100, 10, 51, 10, 50, 45, 50, 32, 121, 32, 99, 97, 99, 104, 101, 100, 10, 51, 10, 51, 10, 69, 114, 114, 83, 104, 97, 112, 101, 10]⟩) ∧ Below w.heap.size w w') from by
    have h := HR.out factI (by unfold maxLen; decide) w (Below.refl _ _)
    rw [fact_is] at h
    exact h)
  have HT1 := hid (fun W (hW : Below w.heap.size w W) => HR.out t hl W hW)
  unfold maxLen at hl
  clear hT
  by_cases h3 : 3000 < t.length
  · have h3' : (3000 : Int) < (t.length : Int) := by omega
    have hlong : runT t = longT := if_pos h3
    have HT2 := hid (fun W (hW : Below w.heap.size w W) => show Calls Tryz.prog 6 #[.string (mkB t)] W (fun e w' => e = .returned (.string ⟨#[116, 111, 111, 32, 108, 111, 110, 103, 10]⟩) ∧ Below W.heap.size W w') from by
      have h := HT1.out W hW
      rw [hlong] at h
      exact h)
    clear hlong HT1 h3
    go_enter Tryz.func4, Tryz.ntmps4
    go_wp2_with fail
    refine HF.out.mono ?_
    rintro e w1 ⟨rfl, hb1⟩
    have HT3 := hid (HT2.out w1 hb1)
    have Hb1 := hid hb1
    clear hb1
    go_wp2_with fail
    refine HT3.out.mono ?_
    rintro e w2 ⟨rfl, hb2⟩
    have Hb2 := hid (Hb1.out.trans (hb2.mono Hb1.out.size))
    clear hb2
    go_wp2_with fail
    go_ret
    exact ⟨rfl, Hb2.out⟩
  · have h3' : ¬ (3000 : Int) < (t.length : Int) := by omega
    go_enter Tryz.func4, Tryz.ntmps4
    go_wp2_with fail
    refine HF.out.mono ?_
    rintro e w1 ⟨rfl, hb1⟩
    have Hb1 := hid hb1
    clear hb1
    go_wp2_with fail
    go_loopw [7, 8] (fun i j wr => ∃ k c : Nat, k ≤ t.length ∧ c ≤ k ∧ i = .int .i64 k ∧ j = .int .i64 c ∧ ((t.take k = [] ∨ (t.take k).getLast? = some 10) ∨ (c : Int) < many) ∧ wr = w1) (fun i _ _ => t.length - (intOf i).toNat)
    case atStart => exact ⟨0, 0, Nat.zero_le _, Nat.zero_le _, rfl, rfl, .inl (.inl rfl), rfl⟩
    case round =>
      obtain ⟨k, c, hk, hck, rfl, rfl, hP, rfl⟩ := hrel
      by_cases hlt : k < t.length
      · have hlt' : (k : Int) < (t.length : Int) := by omega
        by_cases hcm : (c : Int) < many
        · go_wp2_with fail
          all_goals
            rename_i hb
            first
              | exact ⟨⟨k + 1, c, by omega, by omega, by go_num, rfl, .inr hcm, trivial⟩, by simp [intOf]; omega⟩
              | exact ⟨⟨k + 1, c + 1, by omega, by omega, by go_num, by go_num, .inl (.inr (last10 t k hlt hb)), trivial⟩, by simp [intOf]; omega⟩
        · have hp : t.take k = [] ∨ (t.take k).getLast? = some 10 := hP.resolve_right hcm
          obtain ⟨r, hr⟩ : ∃ r, runT t = runT (t.take k) ++ r := by
            have := runT_begins (p := t.take k) (q := t.drop k) hp (by rw [List.take_append_drop]; omega)
            rwa [List.take_append_drop] at this
          have HRk := hid (show Calls Tryz.prog 6 #[.string ((mkB t).extract 0 k)] wr (fun e w' => e = .returned (.string (mkB (runT (t.take k)))) ∧ Below wr.heap.size wr w') from by
            rw [mkB_take]
            exact HR.out _ (by rw [List.length_take]; unfold maxLen; omega) wr Hb1.out)
          generalize runT (t.take k) = A at *
          go_wp2_with fail
          refine HRk.out.mono ?_
          rintro e w2 ⟨rfl, hb2⟩
          have Hb2 := hid (Hb1.out.trans (hb2.mono Hb1.out.size))
          have HTt := hid (HT1.out w2 Hb2.out)
          clear hb2 HT1 HR HF HRk
          go_wp2_with fail
          refine HTt.out.mono ?_
          rintro e w3 ⟨rfl, hb3⟩
          have Hb3 := hid (Hb2.out.trans (hb3.mono Hb2.out.size))
          clear hb3 HTt
          rw [hr]
          have hs1 := mkB_size A
          have hs2 := mkB_size (A ++ r)
          rw [List.length_append] at hs2
          have hle : (A.length : Int) ≤ (A.length : Int) + (r.length : Int) := by omega
          have hex := mkB_extract A r
          go_wp2_with fail
          go_ret
          exact ⟨rfl, Hb3.out⟩
      · obtain rfl : k = t.length := by omega
        obtain ⟨A, hA⟩ : ∃ A, A = runT t := ⟨_, rfl⟩
        obtain ⟨r, hr⟩ : ∃ r, runT t = A ++ r := ⟨[], by rw [List.append_nil, hA]⟩
        have HRk := hid (show Calls Tryz.prog 6 #[.string ((mkB t).extract 0 t.length)] wr (fun e w' => e = .returned (.string (mkB A)) ∧ Below wr.heap.size wr w') from by
          rw [mkB_take, List.take_length, hA]
          exact HR.out _ (by unfold maxLen; omega) wr Hb1.out)
        clear hA
        go_wp2_with fail
        refine HRk.out.mono ?_
        rintro e w2 ⟨rfl, hb2⟩
        have Hb2 := hid (Hb1.out.trans (hb2.mono Hb1.out.size))
        have HTt := hid (HT1.out w2 Hb2.out)
        clear hb2 HT1 HR HF HRk
        go_wp2_with fail
        refine HTt.out.mono ?_
        rintro e w3 ⟨rfl, hb3⟩
        have Hb3 := hid (Hb2.out.trans (hb3.mono Hb2.out.size))
        clear hb3 HTt
        rw [hr]
        have hs1 := mkB_size A
        have hs2 := mkB_size (A ++ r)
        rw [List.length_append] at hs2
        have hle : (A.length : Int) ≤ (A.length : Int) + (r.length : Int) := by omega
        have hex := mkB_extract A r
        go_wp2_with fail
        go_ret
        exact ⟨rfl, Hb3.out⟩
end Go.Proofs.YtemhdfodghfkfaaGreatDoor
