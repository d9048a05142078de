/-
  PLAIN LAW OF THE REFERENCE's RINGS: points by place and node are the sorted ones, each once; all owners, and the first of them. CONDITIONS: none.
  CONTRACT of the reference's Points. CONDITIONS: none.
-/
import Derived.Test.YtemhdfodghfkfaaGreatDoorRing6
import Derived.Test.YtemhdfodghfkfaaGreatDoorRHash
namespace Go.Proofs.YtemhdfodghfkfaaGreatDoor

theorem asc_eq : ∀ {l m : List Pt}, l.Pairwise (fun x y => ltP x y = true) → m.Pairwise (fun x y => ltP x y = true) → (∀ x, x ∈ l ↔ x ∈ m) → l = m
  | [], [], _, _, _ => rfl
  | [], b :: m, _, _, h => by have := (h b).2 (List.mem_cons_self ..); cases this
  | a :: l, [], _, _, h => by have := (h a).1 (List.mem_cons_self ..); cases this
  | a :: l, b :: m, hl, hm, h => by
    obtain ⟨l1, l2⟩ := List.pairwise_cons.1 hl
    obtain ⟨m1, m2⟩ := List.pairwise_cons.1 hm
    have hab : a = b := by
      rcases List.mem_cons.1 ((h a).1 (List.mem_cons_self ..)) with e | ha
      · exact e
      · rcases List.mem_cons.1 ((h b).2 (List.mem_cons_self ..)) with e | hb
        · exact e.symm
        · have := ltP_trans (m1 a ha) (l1 b hb)
          rw [ltP_irrefl] at this
          cases this
    subst hab
    rw [asc_eq l2 m2 (fun x => ?_)]
    constructor
    · intro hx
      rcases List.mem_cons.1 ((h x).1 (List.mem_cons_of_mem _ hx)) with rfl | hx2
      · have := l1 x hx
        rw [ltP_irrefl] at this
        cases this
      · exact hx2
    · intro hx
      rcases List.mem_cons.1 ((h x).2 (List.mem_cons_of_mem _ hx)) with rfl | hx2
      · have := m1 x hx
        rw [ltP_irrefl] at this
        cases this
      · exact hx2
/-- is there a point of a node at a place, among the first m -/
def hitB (n at_ : Int) (m : Nat) : Bool := (List.range m).any fun i => decide ((hashP n i : Int) = at_)
theorem hitB_true {n at_ : Int} {m : Nat} : hitB n at_ m = true ↔ ∃ i, i < m ∧ (hashP n i : Int) = at_ := by
  unfold hitB
  simp [List.any_eq_true]
def hitP (l : List Int) (m : Nat) (at_ n : Int) : Bool := inL n l && hitB n at_ m
def rowP (l : List Int) (m : Nat) (at_ : Int) (k : Nat) : List Pt := (List.range k).flatMap fun (n : Nat) => if hitP l m at_ n = true then [⟨at_, n⟩] else []
theorem rowP_succ (l : List Int) (m : Nat) (at_ : Int) (k : Nat) : rowP l m at_ (k + 1) = rowP l m at_ k ++ if hitP l m at_ k = true then [⟨at_, k⟩] else [] := by simp [rowP, List.range_succ]
def refP (l : List Int) (m j : Nat) : List Pt := (List.range j).flatMap fun (a : Nat) => rowP l m a 6
theorem refP_succ (l : List Int) (m j : Nat) : refP l m (j + 1) = refP l m j ++ rowP l m j 6 := by simp [refP, List.range_succ]
theorem rowP_mem {l : List Int} {m : Nat} {at_ : Int} {k : Nat} {x : Pt} : x ∈ rowP l m at_ k ↔ ∃ n : Nat, n < k ∧ hitP l m at_ n = true ∧ x = ⟨at_, n⟩ := by
  unfold rowP
  rw [List.mem_flatMap]
  constructor
  · rintro ⟨n, hn, hx⟩
    rw [List.mem_range] at hn
    split at hx
    · exact ⟨n, hn, by assumption, List.mem_singleton.1 hx⟩
    · cases hx
  · rintro ⟨n, hn, hh, rfl⟩
    exact ⟨n, List.mem_range.2 hn, by rw [if_pos hh]; exact List.mem_singleton.2 rfl⟩
theorem refP_mem {l : List Int} {m j : Nat} {x : Pt} : x ∈ refP l m j ↔ ∃ a : Nat, a < j ∧ ∃ n : Nat, n < 6 ∧ hitP l m a n = true ∧ x = ⟨(a : Int), n⟩ := by
  unfold refP
  rw [List.mem_flatMap]
  constructor
  · rintro ⟨a, ha, hx⟩
    exact ⟨a, List.mem_range.1 ha, rowP_mem.1 hx⟩
  · rintro ⟨a, ha, hx⟩
    exact ⟨a, List.mem_range.2 ha, rowP_mem.2 hx⟩
theorem rowP_lt (l : List Int) (m : Nat) (at_ : Int) : ∀ k, (rowP l m at_ k).Pairwise (fun x y => ltP x y = true)
  | 0 => List.Pairwise.nil
  | k + 1 => by
    rw [rowP_succ]
    refine List.pairwise_append.2 ⟨rowP_lt l m at_ k, ?_, fun x hx y hy => ?_⟩
    · split
      · exact List.pairwise_singleton _ _
      · exact List.Pairwise.nil
    · obtain ⟨n, hn, -, rfl⟩ := rowP_mem.1 hx
      split at hy
      · rw [List.mem_singleton.1 hy, ltP_true]
        exact .inr ⟨rfl, by show (n : Int) < (k : Int); omega⟩
      · cases hy
theorem refP_lt (l : List Int) (m : Nat) : ∀ j, (refP l m j).Pairwise (fun x y => ltP x y = true)
  | 0 => List.Pairwise.nil
  | j + 1 => by
    rw [refP_succ]
    refine List.pairwise_append.2 ⟨refP_lt l m j, rowP_lt l m j 6, fun x hx y hy => ?_⟩
    obtain ⟨a, ha, n, -, -, rfl⟩ := refP_mem.1 hx
    obtain ⟨n', -, -, rfl⟩ := rowP_mem.1 hy
    rw [ltP_true]
    simp only
    omega
theorem rowP_length (l : List Int) (m : Nat) (at_ : Int) : ∀ k, (rowP l m at_ k).length ≤ k
  | 0 => Nat.le_refl _
  | k + 1 => by
    have := rowP_length l m at_ k
    rw [rowP_succ, List.length_append]
    split
    · rw [List.length_singleton]; omega
    · rw [List.length_nil]; omega
theorem refP_length (l : List Int) (m : Nat) : ∀ j, (refP l m j).length ≤ 6 * j
  | 0 => Nat.le_refl _
  | j + 1 => by
    have h1 := refP_length l m j
    have h2 := rowP_length l m j 6
    rw [refP_succ, List.length_append]
    omega
/-- the reference's points are those that the program gives -/
theorem refP_ptsC {l : List Int} {m : Nat} (hn : ∀ n ∈ l, nodeB n = true) : refP l m 256 = ptsC l m := by
  refine asc_eq (refP_lt l m 256) (ptsC_lt l m) (fun x => ?_)
  rw [refP_mem, ptsC_mem]
  constructor
  · rintro ⟨a, ha, n, hn6, hh, rfl⟩
    unfold hitP at hh
    rw [Bool.and_eq_true, inL_true, hitB_true] at hh
    obtain ⟨h1, i, hi, h2⟩ := hh
    exact ⟨n, h1, i, hi, by rw [h2]⟩
  · rintro ⟨n, hnl, i, hi, rfl⟩
    obtain ⟨n0, n6⟩ := nodeB_true.1 (hn n hnl)
    obtain ⟨k, rfl⟩ := Int.eq_ofNat_of_zero_le n0
    refine ⟨hashP k i, hashP_lt _ _, k, by omega, ?_, rfl⟩
    unfold hitP
    rw [Bool.and_eq_true, inL_true, hitB_true]
    exact ⟨hnl, i, hi, rfl⟩
theorem refP_good {l : List Int} {m j : Nat} (hj : j ≤ 256) : ∀ x ∈ refP l m j, x.good := fun x hx => by
  obtain ⟨a, ha, n, hn, -, rfl⟩ := refP_mem.1 hx
  unfold Pt.good
  simp only
  omega
/-- all owners -/
def ownAS (out : List Int) (p : Pt) : List Int := if p.node ∈ out then out else out ++ [p.node]
def ownA (l : List Pt) : List Int := l.foldl ownAS []
theorem ownA_snoc (l : List Pt) (p : Pt) : ownA (l ++ [p]) = ownAS (ownA l) p := by unfold ownA; rw [List.foldl_append]; rfl
theorem ownA_len (l : List Pt) : (ownA l).length ≤ l.length := by
  refine snoc_indP (P := fun l => (ownA l).length ≤ l.length) l (Nat.le_refl _) (fun l p ih => ?_)
  rw [ownA_snoc, ownAS, List.length_append, List.length_singleton]
  split
  · omega
  · rw [List.length_append, List.length_singleton]; omega
theorem ownL_take (m : Nat) (l : List Pt) : ownL (m : Int) l = (ownA l).take m := by
  refine snoc_indP (P := fun l => ownL (m : Int) l = (ownA l).take m) l (by simp [ownL, ownA]) (fun l p ih => ?_)
  rw [ownL_snoc, ownA_snoc, ih, ownS, ownAS]
  by_cases hlt : (ownA l).length < m
  · rw [List.take_of_length_le (by omega)]
    by_cases hp : p.node ∈ ownA l
    · rw [if_neg (fun h => h.2 hp), if_pos hp, List.take_of_length_le (by omega)]
    · rw [if_pos ⟨by omega, hp⟩, if_neg hp, List.take_of_length_le (by rw [List.length_append, List.length_singleton]; omega)]
  · rw [if_neg (fun h => by have := h.1; rw [List.length_take] at this; omega)]
    split
    · rfl
    · rw [List.take_append_of_le_length (by omega)]
theorem ownA_head (x : Pt) (r : List Pt) : ∃ t, ownA (x :: r) = x.node :: t := by
  refine snoc_indP (P := fun r => ∃ t, ownA (x :: r) = x.node :: t) r ⟨[], by simp [ownA, ownAS]⟩ (fun l p ih => ?_)
  obtain ⟨t, ht⟩ := ih
  rw [← List.cons_append, ownA_snoc, ht, ownAS]
  split
  · exact ⟨t, rfl⟩
  · exact ⟨t ++ [p.node], rfl⟩
/-- a place of the round -/
theorem rotP_getD {l : List Pt} {f i : Nat} (hf : f < l.length) (hi : i < l.length) : (rotP l f).getD i Pt.zero = l.getD ((f + i) % l.length) Pt.zero := by
  unfold rotP
  by_cases h : f + i < l.length
  · rw [Nat.mod_eq_of_lt h, List.getD_eq_getElem?_getD, List.getElem?_append_left (by rw [List.length_drop]; omega), List.getElem?_drop, ← List.getD_eq_getElem?_getD]
  · rw [Nat.mod_eq_sub_mod (by omega), Nat.mod_eq_of_lt (by omega), List.getD_eq_getElem?_getD, List.getElem?_append_right (by rw [List.length_drop]; omega), List.length_drop, List.getElem?_take_of_lt (by omega), ← List.getD_eq_getElem?_getD]
    congr 1
    omega
theorem rotP_length (l : List Pt) {f : Nat} (hf : f ≤ l.length) : (rotP l f).length = l.length := by
  unfold rotP
  rw [List.length_append, List.length_drop, List.length_take]
  omega
end Go.Proofs.YtemhdfodghfkfaaGreatDoor
namespace Go.Proofs.YtemhdfodghfkfaaGreatDoor
open Go.RowKit
open Go.ChangeShapes Go.WideShapes Go.ChangeAt

theorem hitB_no {n at_ : Int} {m : Nat} (h : ∀ i, i < m → ¬ (hashP n i : Int) = at_) : hitB n at_ m = false := by
  rw [← Bool.not_eq_true, hitB_true]
  rintro ⟨i, hi, he⟩
  exact h i hi he
set_option maxHeartbeats 8000000 in
set_option maxRecDepth 100000 in
theorem pointsR_any (s : SlV Int) (m : Nat) (w : World) (hs : IntsAt w s) (hm : m ≤ 8) :
    Calls Tryz.prog 22 #[.slice s.A s.xs.length s.c, .int .i64 m] w fun e w' => ∃ v, e = .returned v ∧ Ow Pt.cells 2 w.heap.size 92 w' v (refP s.xs m 256) ∧ Below w.heap.size w w' := by
  have HK := hid (fun W (hW : Below w.heap.size w W) => hs.stays0 hW)
  clear hs
  go_enter Tryz.func22, Tryz.ntmps22
  go_wp2_with fail
  go_loopw [5, 6] (fun v i wr => ∃ j : Nat, j ≤ 256 ∧ i = .int .i64 j ∧ Ow Pt.cells 2 w.heap.size 92 wr v (refP s.xs m j) ∧ Below w.heap.size w wr) (fun _ i _ => 256 - (intOf i).toNat)
  case atStart => exact ⟨0, Nat.zero_le _, rfl, Ow.nil _ _ _ _ _, Below.refl _ _⟩
  case round =>
    obtain ⟨j, hj, rfl, hO, hbr⟩ := hrel
    obtain ⟨wj, rfl⟩ : ∃ wj : World, wj = wr := ⟨_, rfl⟩
    have HO := hid hO
    have Hbr := hid hbr
    clear hO hbr
    by_cases hlt : j < 256
    · have hjl : (j : Int) < 256 := by omega
      have HLj := hid (refP_length s.xs m j)
      go_wp2_with fail
      go_loopw [5, 7] (fun v i wr => ∃ (vk : Value) (n : Nat), v = vk ∧ n ≤ 6 ∧ i = .int .i64 n ∧ Ow Pt.cells 2 w.heap.size 92 wr v (refP s.xs m j ++ rowP s.xs m j n) ∧ Below w.heap.size w wr) (fun _ i _ => 6 - (intOf i).toNat)
      case atStart => exact ⟨_, 0, rfl, Nat.zero_le _, rfl, by simpa [rowP] using HO.out, Hbr.out⟩
      case round =>
        clear HO Hbr
        obtain ⟨vk, n, hvk, hn, rfl, hO, hbk⟩ := hrel
        obtain rfl := hvk.symm
        obtain ⟨wk, rfl⟩ : ∃ wk : World, wk = wr := ⟨_, rfl⟩
        have HO := hid hO
        have Hbk := hid hbk
        have hzk := hbk.size
        clear hO
        by_cases hn6 : n < 6
        · have hnl : (n : Int) < 6 := by omega
          have HIn := hid (in_any s n wk (HK.out wk hbk))
          have hlen : (refP s.xs m j ++ rowP s.xs m j n).length ≤ 2000 := by
            have h1 := rowP_length s.xs m j n
            have h2 := HLj.out
            rw [List.length_append]
            omega
          have hsucc := rowP_succ s.xs m j n
          generalize hL : refP s.xs m j ++ rowP s.xs m j n = L at *
          rcases hin : inL (n : Int) s.xs with _ | _
          · have HN := hid (show refP s.xs m j ++ rowP s.xs m j (n + 1) = L by rw [hsucc, hitP, hin, Bool.false_and, if_neg (by decide), List.append_nil, hL])
            rw [hin] at HIn
            clear hsucc hL hin hbk
            go_wp2_with fail
            refine HIn.out.mono ?_
            rintro e w2 ⟨rfl, hw2⟩
            obtain rfl : wk = w2 := hw2
            clear HIn
            go_wp2_with fail
            go_loopw [5, 9] (fun u i wr => u = vk ∧ i = .int .i64 0 ∧ wr = wk) (fun _ _ _ => 0)
            case atStart => exact ⟨rfl, rfl, rfl⟩
            case round =>
              obtain ⟨rfl, rfl, hwr⟩ := hrel
              obtain rfl : wk = wr := hwr.symm
              by_cases h0m : (0 : Int) < (m : Int)
              · go_wp2_with fail
                go_roundw
                case rel => exact ⟨_, n + 1, rfl, by omega, by go_num, by rw [HN.out]; exact HO.out, Hbk.out⟩
                case measure => simp [intOf]; omega
              · go_wp2_with fail
                go_roundw
                case rel => exact ⟨_, n + 1, rfl, by omega, by go_num, by rw [HN.out]; exact HO.out, Hbk.out⟩
                case measure => simp [intOf]; omega
          · have HN := hid (show ∀ b, hitB n j m = b → refP s.xs m j ++ rowP s.xs m j (n + 1) = if b = true then L ++ [⟨j, n⟩] else L from fun b hb => by
              rw [hsucc, hitP, hin, hb, Bool.true_and, ← List.append_assoc, hL]
              cases b <;> simp)
            rw [hin] at HIn
            clear hsucc hL hin
            go_wp2_with fail
            refine HIn.out.mono ?_
            rintro e w2 ⟨rfl, hw2⟩
            obtain rfl : wk = w2 := hw2
            clear HIn
            go_wp2_with fail
            go_loopw [5, 9] (fun u i wr => u = vk ∧ ∃ q : Nat, q ≤ m ∧ i = .int .i64 q ∧ (∀ i, i < q → ¬ (hashP n i : Int) = j) ∧ Below wk.heap.size wk wr) (fun _ i _ => m - (intOf i).toNat)
            case atStart => exact ⟨rfl, 0, Nat.zero_le _, rfl, fun i hi => by omega, Below.refl _ _⟩
            case round =>
              obtain ⟨rfl, q, hq, rfl, hall, hbq⟩ := hrel
              obtain ⟨wq, rfl⟩ : ∃ wq : World, wq = wr := ⟨_, rfl⟩
              have Hbq := hid hbq
              have Hall := hid hall
              have hzq := hbq.size
              clear hall hbk
              by_cases hqm : q < m
              · have hql : (q : Int) < (m : Int) := by omega
                have HP := hid (rpair_any n q (by omega) (by omega) wq)
                have hsuc := hid (show ∀ h : Nat, hashL (pairT n q) = h → hashP n q = h % 256 from fun h e => by unfold hashP; rw [e])
                generalize hh : hashL (pairT (n : Int) (q : Int)) = h at *
                have Hh := hid (hsuc.out h rfl)
                clear hh hsuc hbq
                by_cases hit : ((h % 256 : Nat) : Int) = (j : Int)
                · have HNx := hid (HN.out true (hitB_true.2 ⟨q, hqm, by rw [Hh.out]; exact hit⟩))
                  have hit' : ((h : Int) % 256 == (j : Int)) = true := by rw [beq_iff_eq]; omega
                  have hit2 : ((h : Int).tmod 256 == (j : Int)) = true := by rw [beq_iff_eq, Int.tmod_eq_emod_of_nonneg (by omega)]; omega
                  clear HN
                  go_wp2_with fail
                  refine HP.out.mono ?_
                  rintro e w3 ⟨rfl, hb3⟩
                  have hbk3 := Below.step Hbq.out hb3 hzq
                  have HO3 := hid (HO.out.belowS hbk3)
                  have Hb3 := hid (Below.step Hbk.out hbk3 hzk)
                  have hz3 := hbk3.size
                  clear hb3 hbk3 HP
                  go_wp2_with (at_builtin; refine appPt _ w.heap.size _ L (j : Int) (n : Int) HO3.out rfl _ _ rfl rfl rfl ?_ ?_ ?_ ?_)
                  any_goals (first | (with_reducible rfl) | omega | exact World.size_alloc _ _ | (show _ ≤ _; rw [World.size_alloc]; omega))
                  intro v8 w8 hO8 f8 o8
                  have Hb8 := hid (Hb3.out.trans (f8.below0 (by omega) (fun i hi => HO3.out.ge _ hi)))
                  have HO8 := hid hO8
                  clear hO8 f8 o8
                  go_wp2_with fail
                  go_roundw
                  case rel => exact ⟨_, n + 1, rfl, by omega, by go_num, by rw [HNx.out]; exact HO8.out, Hb8.out⟩
                  case measure => simp [intOf]; omega
                · have Hnx := hid (show ∀ i, i < q + 1 → ¬ (hashP n i : Int) = j from fun i hi => by
                    by_cases e : i = q
                    · subst e; rw [Hh.out]; exact hit
                    · exact Hall.out i (by omega))
                  have hit' : ((h : Int) % 256 == (j : Int)) = false := by rw [beq_eq_false_iff_ne]; omega
                  have hit2 : ((h : Int).tmod 256 == (j : Int)) = false := by rw [beq_eq_false_iff_ne, Int.tmod_eq_emod_of_nonneg (by omega)]; omega
                  go_wp2_with fail
                  refine HP.out.mono ?_
                  rintro e w3 ⟨rfl, hb3⟩
                  have Hb3 := hid (Below.step Hbq.out hb3 hzq)
                  clear hb3 HP
                  go_wp2_with fail
                  go_roundw
                  case rel => exact ⟨rfl, q + 1, by omega, by go_num, Hnx.out, Hb3.out⟩
                  case measure => simp [intOf]; omega
              · obtain rfl : q = m := by omega
                have HNx := hid (HN.out false (hitB_no Hall.out))
                have HO3 := hid (HO.out.belowS hbq)
                have Hb3 := hid (Below.step Hbk.out hbq hzk)
                clear HN hbq
                go_wp2_with fail
                go_roundw
                case rel => exact ⟨_, n + 1, rfl, by omega, by go_num, by rw [HNx.out]; exact HO3.out, Hb3.out⟩
                case measure => simp [intOf]; omega
        · obtain rfl : n = 6 := by omega
          rw [← refP_succ] at HO
          clear hbk
          go_wp2_with fail
          go_roundw
          case rel => exact ⟨j + 1, by omega, by go_num, HO.out, Hbk.out⟩
          case measure => simp [intOf]; omega
    · obtain rfl : j = 256 := by omega
      go_wp2_with fail
      go_ret
      exact ⟨_, rfl, HO.out, Hbr.out⟩
end Go.Proofs.YtemhdfodghfkfaaGreatDoor
