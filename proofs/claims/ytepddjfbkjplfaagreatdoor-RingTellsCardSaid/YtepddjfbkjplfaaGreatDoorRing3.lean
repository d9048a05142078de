/-
  CONTRACTS: ring.Nodes and ring.Points. CONDITIONS: the library's table of the powers of ten reads as it is laid (Tb).
-/
import Derived.Test.YtepddjfbkjplfaaGreatDoorRing1
import Derived.Test.YtepddjfbkjplfaaGreatDoorRing2
import Derived.Test.YtepddjfbkjplfaaGreatDoorContains
import Derived.Test.YtepddjfbkjplfaaGreatDoorHEnt
namespace Go.Proofs.YtepddjfbkjplfaaGreatDoor
open Go.RowKit
open Go.ChangeShapes Go.WideShapes Go.ChangeAt

theorem IntsAt.preR {w : World} {s : SlV Int} (h : IntsAt w s) (j : Nat) (hj : j ≤ s.xs.length) : IntsAt w ⟨s.A, s.c, s.xs.take j⟩ := ⟨fun h0 => by
    have hl : (s.xs.take j).length = j := by rw [List.length_take]; omega
    have h0' : 0 < (s.xs.take j).length := h0
    obtain ⟨b, off, h1, h2, h3⟩ := h.row (by omega)
    refine ⟨b, off, h1, h2, fun i hi => ?_⟩
    have hi' : i < (s.xs.take j).length := hi
    rw [h3 i (by omega)]
    show some (Value.int .i64 (s.xs.getD i 0)) = some (Value.int .i64 ((s.xs.take j).getD i 0))
    rw [List.getD_eq_getElem?_getD, List.getD_eq_getElem?_getD, List.getElem?_take_of_lt (by omega)], by
    have := h.len
    have h1 : (s.xs.take j).length ≤ s.xs.length := by rw [List.length_take]; omega
    exact Nat.le_trans h1 this⟩
/-- What is wrong with nodes, those ahead of them known. -/
def rnodesF : List Int → List Int → Int
  | _, [] => 0
  | p, n :: r => if nodeB n = true then (if inL n p = true then 7 else rnodesF (p ++ [n]) r) else 1
def rnodesE (l : List Int) : Int := if l.length = 0 then 5 else if 6 < l.length then 4 else rnodesF [] l
theorem rnodesF_ok : ∀ {l p : List Int}, rnodesF p l = 0 → ∀ n ∈ l, nodeB n = true
  | [], _, _ => fun n hn => by cases hn
  | m :: r, p, h => fun n hn => by
    rw [rnodesF] at h
    split at h
    · rename_i hm
      split at h
      · cases h
      · rcases List.mem_cons.1 hn with rfl | hn
        · exact hm
        · exact rnodesF_ok h n hn
    · cases h
theorem rnodesE_ok {l : List Int} (h : rnodesE l = 0) : 0 < l.length ∧ l.length ≤ 6 ∧ ∀ n ∈ l, nodeB n = true := by
  unfold rnodesE at h
  split at h
  · cases h
  · split at h
    · cases h
    · exact ⟨by omega, by omega, rnodesF_ok h⟩
set_option maxHeartbeats 4000000 in
theorem rnodes_any (s : SlV Int) (w : World) (hs : IntsAt w s) (hok : s.ok) :
    Calls Tryz.prog 17 #[.slice s.A s.xs.length s.c] w fun e w' => e = .returned (errV (rnodesE s.xs)) ∧ w = w' := by
  have hkl := hs.len
  obtain ⟨hkc, hkm⟩ := hok
  unfold maxLen at hkl hkm
  by_cases h0 : s.xs.length = 0
  · rw [rnodesE, if_pos h0, errV_ne (show (5 : Int) ≠ 0 by decide)]
    rw [h0]
    go_enter Tryz.func17, Tryz.ntmps17
    go_wp2_with fail
    go_ret
    exact ⟨rfl, rfl⟩
  have hb0 : ((s.xs.length : Int) == 0) = false := by rw [beq_eq_false_iff_ne]; omega
  by_cases h6 : 6 < s.xs.length
  · rw [rnodesE, if_neg h0, if_pos h6, errV_ne (show (4 : Int) ≠ 0 by decide)]
    have h6' : (6 : Int) < (s.xs.length : Int) := by omega
    clear h0
    go_enter Tryz.func17, Tryz.ntmps17
    go_wp2_with fail
    go_ret
    exact ⟨rfl, rfl⟩
  have h6' : ¬ (6 : Int) < (s.xs.length : Int) := by omega
  rw [rnodesE, if_neg h0, if_neg h6]
  generalize hR : rnodesF [] s.xs = R
  have HR := hid hR
  have HK := hid hs
  clear hs hR h0 h6
  go_enter Tryz.func17, Tryz.ntmps17
  go_wp2_with fail
  go_loop [17] (fun i => ∃ j : Nat, j ≤ s.xs.length ∧ i = .int .i64 j ∧ rnodesF (s.xs.take j) (s.xs.drop j) = R) (fun i => s.xs.length - (intOf i).toNat)
  case atStart => exact ⟨0, Nat.zero_le _, rfl, HR.out⟩
  case round =>
    obtain ⟨j, hj, rfl, hkr⟩ := hrel
    by_cases hlt : j < s.xs.length
    · obtain ⟨b, off, hA, hb, hcs⟩ := HK.out.row (by omega)
      have hcell := hcs j hlt
      have htk := take_snocD 0 hlt
      have hd := drop_consD 0 hlt
      have hpre := HK.out.preR j hj
      have hlp : (s.xs.take j).length = j := by rw [List.length_take]; omega
      have HCo := hid (contains_any ⟨s.A, s.c, s.xs.take j⟩ (s.xs.getD j 0) _ hpre)
      simp only at HCo
      rw [hlp] at HCo
      rw [hd, rnodesF] at hkr
      rw [hA] at HCo
      generalize s.xs.getD j 0 = k at *
      rw [hA]
      have Hkr := hid hkr
      have Htk := hid htk
      have hjl : (j : Int) < (s.xs.length : Int) := by omega
      have hjc : (j : Int) ≤ (s.c : Int) := by omega
      clear hA hcs hpre hd hlp hkr htk
      rcases hk : nodeB k with _ | _
      · have HKr := hid (show (1 : Int) = R by rw [← Hkr.out, if_neg (by rw [hk]; decide)])
        have Hk := hid hk
        clear hk
        go_wp2_with ((go_at_call 29; refine (rnode_any _ _).mono ?_; rintro e w' ⟨rfl, rfl⟩); rw [Hk.out])
        go_ret
        exact ⟨by rw [← HKr.out]; rfl, rfl⟩
      · have Hk := hid hk
        rcases hin : inL k (s.xs.take j) with _ | _
        · rw [hin] at HCo
          have HKr := hid (show rnodesF (s.xs.take (j + 1)) (s.xs.drop (j + 1)) = R by rw [Htk.out, ← Hkr.out, if_pos hk, if_neg (by rw [hin]; decide)])
          clear hk hin
          go_wp2_with (first | ((go_at_call 29; refine (rnode_any _ _).mono ?_; rintro e w' ⟨rfl, rfl⟩); rw [Hk.out]) | (go_at_call 26; refine HCo.out.mono ?_; rintro e w' ⟨rfl, rfl⟩))
          go_round
          case rel => exact ⟨j + 1, by omega, by go_num, HKr.out⟩
          case measure => simp [intOf]; omega
        · rw [hin] at HCo
          have HKr := hid (show (7 : Int) = R by rw [← Hkr.out, if_pos hk, if_pos hin])
          clear hk hin
          go_wp2_with (first | ((go_at_call 29; refine (rnode_any _ _).mono ?_; rintro e w' ⟨rfl, rfl⟩); rw [Hk.out]) | (go_at_call 26; refine HCo.out.mono ?_; rintro e w' ⟨rfl, rfl⟩))
          go_ret
          exact ⟨by rw [← HKr.out]; rfl, rfl⟩
    · obtain rfl : j = s.xs.length := by omega
      have HKr := hid (show (0 : Int) = R by rw [← hkr, List.drop_length]; rfl)
      clear hkr
      go_wp2_with fail
      go_ret
      exact ⟨by rw [← HKr.out]; rfl, rfl⟩

def hashP (n i : Int) : Nat := hashL (pairT n i) % 256
def ptsOf (n : Int) (each : Nat) : List Pt := (List.range each).map fun (i : Nat) => ⟨(hashP n i : Int), n⟩
theorem ptsOf_succ (n : Int) (k : Nat) : ptsOf n (k + 1) = ptsOf n k ++ [⟨(hashP n k : Int), n⟩] := by simp [ptsOf, List.range_succ]
theorem ptsOf_length (n : Int) (k : Nat) : (ptsOf n k).length = k := by simp [ptsOf]
def ptsRaw (l : List Int) (each : Nat) : List Pt := l.flatMap fun n => ptsOf n each
theorem ptsRaw_snoc (l : List Int) (n : Int) (each : Nat) : ptsRaw (l ++ [n]) each = ptsRaw l each ++ ptsOf n each := by simp [ptsRaw]
theorem ptsRaw_length (l : List Int) (each : Nat) : (ptsRaw l each).length = l.length * each := by
  induction l with
  | nil => simp [ptsRaw]
  | cons n r ih =>
    show ((n :: r).flatMap fun n => ptsOf n each).length = _
    rw [List.flatMap_cons, List.length_append, ptsOf_length, List.length_cons, Nat.succ_mul]
    have : (r.flatMap fun n => ptsOf n each).length = r.length * each := ih
    omega
/-- the points -/
def ptsC (l : List Int) (each : Nat) : List Pt := compP (sortP (ptsRaw l each))
def ptsE (l : List Int) (each : Int) : Int := if rnodesE l = 0 then (if each < 1 ∨ 8 < each then 1 else 0) else rnodesE l
def RPts (w : World) (l : List Int) (each : Int) (e : Ending) (w' : World) : Prop :=
  ∃ v, e = .returned (.tuple #[v, errV (ptsE l each)]) ∧ Ow Pt.cells 2 w.heap.size 44 w' v (if ptsE l each = 0 then ptsC l each.toNat else []) ∧ Below w.heap.size w w'
set_option maxHeartbeats 4000000 in
theorem rpoints_any (s : SlV Int) (each : Int) (w : World) (hs : IntsAt w s) (hok : s.ok) (htb : Tb w) :
    Calls Tryz.prog 6 #[.slice s.A s.xs.length s.c, .int .i64 each] w (RPts w s.xs each) := by
  have HNd := hid (rnodes_any s w hs hok)
  have hkl := hs.len
  unfold maxLen at hkl
  unfold RPts
  by_cases h0 : rnodesE s.xs = 0
  case neg =>
    rw [ptsE, if_neg h0, if_neg h0]
    rw [errV_ne h0] at HNd
    have Hen := hid (errV_ne h0)
    generalize rnodesE s.xs = en at *
    clear h0
    go_enter Tryz.func6, Tryz.ntmps6
    go_wp2_with fail
    refine HNd.out.mono ?_
    rintro e w1 ⟨rfl, rfl⟩
    go_wp2_with fail
    go_ret2
    exact ⟨.slice none 0 0, by rw [Hen.out]; rfl, Ow.nil _ _ _ _ _, Below.refl _ _⟩
  case pos =>
  rw [h0, errV_zero] at HNd
  rw [ptsE, if_pos h0]
  obtain ⟨hn0, hn6, hnb⟩ := rnodesE_ok h0
  have Hnb := hid hnb
  clear h0 hnb
  by_cases he : each < 1 ∨ 8 < each
  · rw [if_pos he, if_neg (by decide), errV_ne (show (1 : Int) ≠ 0 by decide)]
    rcases (show each < 1 ∨ (¬ each < 1 ∧ 8 < each) by omega) with h | ⟨h, h2⟩
    all_goals
      clear he
      go_enter Tryz.func6, Tryz.ntmps6
      go_wp2_with fail
      refine HNd.out.mono ?_
      rintro e w1 ⟨rfl, rfl⟩
      go_wp2_with fail
      go_ret2
      exact ⟨.slice none 0 0, rfl, Ow.nil _ _ _ _ _, Below.refl _ _⟩
  rw [if_neg he, if_pos rfl, errV_zero]
  obtain ⟨m, rfl⟩ := Int.eq_ofNat_of_zero_le (show 0 ≤ each by omega)
  rw [Int.toNat_natCast]
  have hm1 : ¬ (m : Int) < 1 := by omega
  have hm8 : ¬ (8 : Int) < (m : Int) := by omega
  have hm : m ≤ 8 := by omega
  have HK := hid (fun W (hW : Below w.heap.size w W) => hs.stays0 hW)
  have HTb := hid (fun W (hW : Below w.heap.size w W) => htb.belowS hW)
  clear hs htb hok he
  go_enter Tryz.func6, Tryz.ntmps6
  go_wp2_with fail
  refine HNd.out.mono ?_
  rintro e w1 ⟨rfl, rfl⟩
  go_wp2_with fail
  go_loopw [7, 25] (fun v i wr => ∃ j : Nat, j ≤ s.xs.length ∧ i = .int .i64 j ∧ Ow Pt.cells 2 w.heap.size 44 wr v (ptsRaw (s.xs.take j) m) ∧ Below w.heap.size w wr) (fun _ i _ => s.xs.length - (intOf i).toNat)
  case atStart => exact ⟨0, Nat.zero_le _, rfl, Ow.nil _ _ _ _ _, Below.refl _ _⟩
  case round =>
    obtain ⟨j, hj, rfl, hO, hbr⟩ := hrel
    obtain ⟨wj, rfl⟩ : ∃ wj : World, wj = wr := ⟨_, rfl⟩
    have HO := hid hO
    have Hbr := hid hbr
    have hzj := hbr.size
    clear hO
    by_cases hlt : j < s.xs.length
    · obtain ⟨b, off, hA, hb, hcs⟩ := (HK.out wj hbr).row (by omega)
      have hcell := hcs j hlt
      have htk := take_snocD 0 hlt
      have hnn := nodeB_true.1 (Hnb.out _ (getD_memD 0 hlt))
      generalize s.xs.getD j 0 = n at *
      have Htk := hid htk
      have hjl : (j : Int) < (s.xs.length : Int) := by omega
      rw [hA]
      clear hA hcs htk hbr
      go_wp2_with fail
      go_loopw [7, 30] (fun v i wr => ∃ k : Nat, k ≤ m ∧ i = .int .i64 k ∧ Ow Pt.cells 2 w.heap.size 44 wr v (ptsRaw (s.xs.take j) m ++ ptsOf n k) ∧ Below w.heap.size w wr) (fun _ i _ => m - (intOf i).toNat)
      case atStart => exact ⟨0, Nat.zero_le _, rfl, by simpa [ptsOf] using HO.out, Hbr.out⟩
      case round =>
        clear HO Hbr hcell
        obtain ⟨k, hk, rfl, hO, hbk⟩ := hrel
        obtain ⟨wk, rfl⟩ : ∃ wk : World, wk = wr := ⟨_, rfl⟩
        have HO := hid hO
        have Hbk := hid hbk
        have hzk := hbk.size
        clear hO
        by_cases hkm : k < m
        · have HP := hid (pair_any n k (by unfold I64; omega) (by unfold I64; omega) wk (HTb.out wk hbk))
          have hlen : (ptsRaw (s.xs.take j) m ++ ptsOf n k).length ≤ 100 := by
            rw [List.length_append, ptsRaw_length, ptsOf_length, List.length_take]
            have h1 : min j s.xs.length * m ≤ 6 * 8 := Nat.mul_le_mul (by omega) hm
            omega
          have hsucc := ptsOf_succ n k
          unfold hashP at hsucc
          generalize hashL (pairT n k) = h at *
          generalize hL : ptsRaw (s.xs.take j) m ++ ptsOf n k = L at *
          have HL := hid (show ptsRaw (s.xs.take j) m ++ ptsOf n (k + 1) = L ++ [⟨((h % 256 : Nat) : Int), n⟩] by rw [hsucc, ← List.append_assoc, hL])
          have hkm' : (k : Int) < (m : Int) := by omega
          clear hbk hL hsucc
          go_wp2_with fail
          refine HP.out.mono ?_
          rintro e w2 ⟨rfl, hb2⟩
          have HO2 := hid (HO.out.belowS hb2)
          have Hb2 := hid (Below.step Hbk.out hb2 hzk)
          have hz2 := hb2.size
          clear hb2 HP
          go_wp2_with (at_builtin; refine appPt _ w.heap.size _ L ((h % 256 : Nat) : Int) n HO2.out rfl _ _ rfl rfl rfl ?_ ?_ ?_ ?_)
          any_goals (first | (with_reducible rfl) | omega | exact World.size_alloc _ _ | (show _ ≤ _; rw [World.size_alloc]; omega))
          intro v8 w8 hO8 f8 o8
          have Hb8 := hid (Hb2.out.trans (f8.below0 (by omega) (fun i hi => HO2.out.ge _ hi)))
          have HO8 := hid hO8
          clear hO8 f8 o8
          go_wp2_with fail
          go_roundw
          case rel => exact ⟨k + 1, by omega, by go_num, by rw [HL.out]; exact HO8.out, Hb8.out⟩
          case measure => simp [intOf]; omega
        · obtain rfl : k = m := by omega
          clear hbk
          go_wp2_with fail
          go_roundw
          case rel => exact ⟨j + 1, by omega, by go_num, by rw [Htk.out, ptsRaw_snoc]; exact HO.out, Hbk.out⟩
          case measure => simp [intOf]; omega
    · obtain rfl : j = s.xs.length := by omega
      rw [List.take_length] at HO
      have hrl := ptsRaw_length s.xs m
      have hpos : 0 < (ptsRaw s.xs m).length := by rw [hrl]; exact Nat.mul_pos hn0 (by omega)
      have hle : (ptsRaw s.xs m).length ≤ 48 := by rw [hrl]; exact Nat.mul_le_mul hn6 hm
      obtain ⟨g, off, cap, rfl, -, -, hbg, -, -, -, -⟩ := HO.out.get hpos
      have hsl := sortP_length (ptsRaw s.xs m)
      have HS := hid (fun W (hO : Ow Pt.cells 2 w.heap.size 44 W (.slice (some ⟨g, off, none⟩) (ptsRaw s.xs m).length cap) (ptsRaw s.xs m)) => psort_any w.heap.size g off cap (ptsRaw s.xs m) W hpos hO (by omega))
      have HC := hid (fun W (hO : Ow Pt.cells 2 w.heap.size 44 W (.slice (some ⟨g, off, none⟩) (sortP (ptsRaw s.xs m)).length cap) (sortP (ptsRaw s.xs m))) => compact_any w.heap.size g off cap (sortP (ptsRaw s.xs m)) W (by omega) hO (by omega))
      rw [hsl] at HC
      have HS1 := hid (HS.out _ HO.out)
      clear HS hbr hrl hpos hle hsl
      go_wp2_with fail
      refine HS1.out.mono ?_
      rintro e w2 ⟨rfl, hO2, hF2⟩
      have HC2 := hid (HC.out w2 hO2)
      have Hb2 := hid (Hbr.out.trans (hF2.below0 hzj (fun i hi => by rw [hi]; exact hbg)))
      have hz2 := hF2.size
      clear hO2 hF2 HC HS1
      go_wp2_with fail
      refine HC2.out.mono ?_
      rintro e w3 ⟨k, rfl, hO3, hF3⟩
      have Hb3 := hid (Hb2.out.trans (hF3.below0 (by omega) (fun i hi => by rw [hi]; exact hbg)))
      have HO3 := hid hO3
      clear hO3 hF3 HC2
      go_wp2_with fail
      go_ret2
      exact ⟨_, rfl, HO3.out, Hb3.out⟩
end Go.Proofs.YtepddjfbkjplfaaGreatDoor
