/-
  CONTRACTS of the reference's Cut (a text cut at a byte) and number (a word's number). CONDITIONS: none.
-/
import Derived.Test.YtemhdfodghfkfaaGreatDoorLogLaw
import Derived.Test.YtemhdfodghfkfaaGreatDoorIKit
import Derived.Deep.RegionLaw
import Derived.Deep.CutBlock
import Derived.Deep.DeepCutAuto
import Derived.BigQuiet
namespace Go.Proofs.YtemhdfodghfkfaaGreatDoor
open Go.RowKit
open Go.ChangeShapes Go.WideShapes Go.ChangeAt

theorem mkB_slice (l : List UInt8) (a b : Nat) : (mkB l).extract a b = mkB ((l.take b).drop a) := by
  apply ByteArray.ext
  rw [ByteArray.data_extract]
  show l.toArray.extract a b = ((l.take b).drop a).toArray
  simp [List.drop_take]
theorem Ow.strsAt {w : World} {base : Nat} {T : TypeId} {A : Option Addr} {cap : Nat} {l : List ByteArray} (h : Ow cellB 1 base T w (.slice A l.length cap) l) (he : ∀ x ∈ l, x.size ≤ maxLen) : StrsAt w ⟨A, cap, l⟩ := by
  refine ⟨fun h0 => ?_, he, ?_⟩
  · obtain ⟨g, og, cap', e, -, -, -, hg, -⟩ := h.get h0
    injection e with e1 e2 e3
    subst e1
    refine ⟨g, og, rfl, hg, fun i hi => Ow.strCells h h0 i _ (List.getElem?_eq_getElem hi)⟩
  · obtain ⟨A', cap', e, h1, h2, -⟩ := h.form
    exact Nat.le_trans h1 h2
/-- a text cut, its pieces so far -/
theorem cut_hit {c : UInt8} {l : List UInt8} {k a : Nat} {P : List (List UInt8)} (hk : k < l.length) (hc : l[k] = c) (h : P ++ cutGo c ((l.take k).drop a) (l.drop k) = cutC c l) :
    (P ++ [(l.take k).drop a]) ++ cutGo c ((l.take (k + 1)).drop (k + 1)) (l.drop (k + 1)) = cutC c l := by
  rw [← h, List.drop_eq_getElem_cons hk, cutGo, if_pos hc, List.append_assoc]
  have : (l.take (k + 1)).drop (k + 1) = [] := List.drop_eq_nil_of_le (by rw [List.length_take]; omega)
  rw [this]
  rfl
theorem cut_miss {c : UInt8} {l : List UInt8} {k a : Nat} {P : List (List UInt8)} (hk : k < l.length) (ha : a ≤ k) (hc : ¬ l[k] = c) (h : P ++ cutGo c ((l.take k).drop a) (l.drop k) = cutC c l) :
    P ++ cutGo c ((l.take (k + 1)).drop a) (l.drop (k + 1)) = cutC c l := by
  rw [← h, List.drop_eq_getElem_cons hk, cutGo, if_neg hc]
  have : (l.take (k + 1)).drop a = (l.take k).drop a ++ [l[k]] := by
    rw [List.take_succ_eq_append_getElem hk, List.drop_append_of_le_length (by rw [List.length_take]; omega)]
  rw [this]
theorem cut_end {c : UInt8} {l : List UInt8} {a : Nat} {P : List (List UInt8)} (h : P ++ cutGo c ((l.take l.length).drop a) (l.drop l.length) = cutC c l) : P ++ [(l.take l.length).drop a] = cutC c l := by
  rw [← h, List.drop_length, cutGo]
theorem byte_at (l : List UInt8) {k : Nat} (hk : k < l.length) (h : k < (mkB l).size) : (mkB l)[k]'h = l[k]'hk := rfl
theorem byte_eq {x c : UInt8} (h : x = c) : (((x.toNat : Nat) : Int) == ((c.toNat : Nat) : Int)) = true := by rw [h]; exact beq_self_eq_true _
theorem byte_ne {x c : UInt8} (h : ¬ x = c) : (((x.toNat : Nat) : Int) == ((c.toNat : Nat) : Int)) = false :=
  beq_eq_false_iff_ne.2 (fun e => h (UInt8.toNat_inj.1 (by omega)))
/-- what Cut answers -/
def CutR (P : List (List UInt8)) (w : World) (e : Ending) (w' : World) : Prop := ∃ r : SlV ByteArray, e = .returned (.slice r.A r.xs.length r.c) ∧ r.xs = P.map mkB ∧ StrsAt w' r ∧ r.xs.length ≤ r.c ∧ Below w.heap.size w w'
set_option maxHeartbeats 4000000 in
theorem rcut_any (l : List UInt8) (hl : l.length ≤ 10000000) (c : UInt8) (w : World) :
    Calls Tryz.prog 7 #[.string (mkB l), .int .u8 ((c.toNat : Nat) : Int)] w (CutR (cutC c l) w) := by
  have hsz := mkB_size l
  have hpl := cutC_len c l
  have hmany := cutC_many c l
  generalize hC : cutC c l = C at *
  have HC := hid (And.intro hC (And.intro hpl hmany))
  clear hC hpl hmany
  go_enter Tryz.func7, Tryz.ntmps7
  go_wp2_with fail
  go_loopw [5, 6, 7] (fun v f i wr => ∃ (k a : Nat) (P : List (List UInt8)), k ≤ l.length ∧ a ≤ k ∧ f = .int .i64 a ∧ i = .int .i64 k ∧ P.length ≤ k ∧ P ++ cutGo c ((l.take k).drop a) (l.drop k) = C ∧ Ow cellB 1 w.heap.size 9 wr v (P.map mkB) ∧ Below w.heap.size w wr) (fun _ _ i _ => l.length - (intOf i).toNat)
  case atStart => exact ⟨0, 0, [], Nat.zero_le _, Nat.le_refl _, rfl, rfl, Nat.le_refl _, HC.out.1, Ow.nil _ _ _ _ _, Below.refl _ _⟩
  case round =>
    obtain ⟨k, a, P, hk, hak, rfl, rfl, hP, hcut, hO, hbr⟩ := hrel
    have hzr := hbr.size
    have Hcut := hid hcut
    have HO := hid hO
    have Hbr := hid hbr
    clear hcut hO hbr
    have hPl : (P.map mkB).length = P.length := List.length_map ..
    have hak' : (a : Int) ≤ (k : Int) := by omega
    have hkl' : (k : Int) ≤ (l.length : Int) := by omega
    by_cases hlt : k < l.length
    · have hlt' : (k : Int) < (l.length : Int) := by omega
      have hks : k < (mkB l).size := by rw [hsz]; exact hlt
      have hgk := byte_at l hlt hks
      by_cases hc : l[k] = c
      · have hq : ((((mkB l)[k]'hks).toNat : Int) == ((c.toNat : Nat) : Int)) = true := byte_eq (hgk.trans hc)
        have Hcut2 := hid (cut_hit hlt hc (Hcut.out.trans HC.out.1.symm))
        clear hgk hc Hcut
        go_wp2_with (at_builtin; refine appB _ w.heap.size _ (P.map mkB) ((mkB l).extract a k) HO.out rfl _ _ rfl rfl rfl ?_ ?_ ?_ ?_)
        any_goals (first | (with_reducible rfl) | omega | exact World.size_alloc _ _ | (show _ ≤ _; rw [World.size_alloc]; omega))
        intro v8 w8 h8 f8 o8
        have hb8 : Below w.heap.size w w8 := Hbr.out.trans (f8.below0 (by omega) (fun i hi => HO.out.ge _ hi))
        go_wp2_with fail
        go_roundw
        case rel => exact ⟨k + 1, k + 1, P ++ [(l.take k).drop a], by omega, Nat.le_refl _, by go_num, by go_num, by rw [List.length_append, List.length_singleton]; omega, Hcut2.out.trans HC.out.1, by rw [List.map_append, List.map_cons, List.map_nil, ← mkB_slice]; exact h8, hb8⟩
        case measure => simp [intOf]; omega
      · have hq : ((((mkB l)[k]'hks).toNat : Int) == ((c.toNat : Nat) : Int)) = false := byte_ne (fun e => hc (hgk.symm.trans e))
        have Hcut2 := hid (cut_miss hlt hak hc (Hcut.out.trans HC.out.1.symm))
        clear hgk hc Hcut
        go_wp2_with fail
        go_roundw
        case rel => exact ⟨k + 1, a, P, by omega, by omega, rfl, by go_num, by omega, Hcut2.out.trans HC.out.1, HO.out, Hbr.out⟩
        case measure => simp [intOf]; omega
    · obtain rfl : k = l.length := by omega
      have Hcut2 := hid (cut_end (Hcut.out.trans HC.out.1.symm))
      clear Hcut
      go_wp2_with (at_builtin; refine appB _ w.heap.size _ (P.map mkB) ((mkB l).extract a l.length) HO.out rfl _ _ rfl rfl rfl ?_ ?_ ?_ ?_)
      any_goals (first | (with_reducible rfl) | omega | exact World.size_alloc _ _ | (show _ ≤ _; rw [World.size_alloc]; omega))
      intro v8 w8 h8 f8 o8
      have hb8 : Below w.heap.size w w8 := Hbr.out.trans (f8.below0 (by omega) (fun i hi => HO.out.ge _ hi))
      have hC2 : C.map mkB = P.map mkB ++ [(mkB l).extract a l.length] := by rw [← HC.out.1, ← Hcut2.out, List.map_append, List.map_cons, List.map_nil, ← mkB_slice]
      rw [← hC2] at h8
      obtain ⟨A, cap, rfl, hcap, -⟩ := h8.form
      have hfin : CutR C w (.returned (.slice A (C.map mkB).length cap)) w8 := ⟨⟨A, cap, C.map mkB⟩, rfl, rfl, h8.strsAt (fun x hx => by
        obtain ⟨p, hp, rfl⟩ := List.mem_map.1 hx
        have := HC.out.2.1 p hp
        rw [mkB_size]
        unfold maxLen
        omega), hcap, hb8⟩
      clear h8 f8 o8 hb8 hC2 hcap
      generalize (C.map mkB).length = n at *
      have Hfin := hid hfin
      clear hfin
      go_wp2_with fail
      go_ret
      exact Hfin.out

/-! ### number -/
/-- what number answers -/
def numV (N : Option Nat) : Ending := .returned (.tuple #[.int .i64 ((N.getD 0 : Nat) : Int), .bool N.isSome])
theorem numL_empty : numL [] = none := if_pos (.inl rfl)
theorem numL_long {l : List UInt8} (h : 4 < l.length) : numL l = none := if_pos (.inr (.inl h))
theorem numL_zero {l : List UInt8} (h0 : l.headD 0 = 48) (h1 : 1 < l.length) : numL l = none := if_pos (.inr (.inr (.inl ⟨h0, h1⟩)))
theorem numL_nodig {l : List UInt8} {k : Nat} (hk : k < l.length) (h : ¬ isDig l[k] = true) : numL l = none := if_pos (.inr (.inr (.inr (by
  rcases hh : l.all isDig with _ | _
  · rfl
  · exact absurd (List.all_eq_true.1 hh _ (List.getElem_mem hk)) h))))
theorem valN_take {l : List UInt8} {k : Nat} (hk : k < l.length) : valN 0 (l.take (k + 1)) = stepV (valN 0 (l.take k)) l[k] := by
  unfold valN
  rw [List.take_succ_eq_append_getElem hk, List.foldl_append]
  rfl
theorem valN_le : ∀ (l : List UInt8) (n : Nat), n ≤ 10 ^ 6 → (∀ b ∈ l, isDig b = true) → l.length ≤ 4 → valN n l ≤ 10 ^ 6 * 10 ^ 5
  | l, n, hn, hd, hl => by
    have aux : ∀ (l : List UInt8) (n m : Nat), n + 1 ≤ m → (∀ b ∈ l, isDig b = true) → valN n l + 1 ≤ m * 10 ^ l.length := fun l => by
      induction l with
      | nil => intro n m h _; simpa [valN] using h
      | cons b r ih =>
        intro n m h hd
        have hb := (dig_back (hd b (List.mem_cons_self ..))).2
        rw [valN_cons, List.length_cons, Nat.pow_succ, Nat.mul_comm (10 ^ r.length), ← Nat.mul_assoc]
        exact ih _ _ (by unfold stepV; omega) (fun c hc => hd c (List.mem_cons_of_mem _ hc))
    have h1 := aux l n (n + 1) (Nat.le_refl _) hd
    have h2 : (n + 1) * 10 ^ l.length ≤ (10 ^ 6 + 1) * 10 ^ 4 := Nat.mul_le_mul (by omega) (Nat.pow_le_pow_right (by decide) hl)
    have h3 : (10 ^ 6 + 1) * 10 ^ 4 ≤ 10 ^ 6 * 10 ^ 5 := by decide
    omega
theorem headD_get {l : List UInt8} (h : 0 < l.length) : l.headD 0 = l[0] := by
  match l, h with
  | a :: r, _ => rfl
theorem isDig_iff {b : UInt8} : isDig b = true ↔ 48 ≤ b.toNat ∧ b.toNat ≤ 57 := by unfold isDig; simp
set_option maxHeartbeats 4000000 in
theorem rnumber_any (l : List UInt8) (hl : l.length ≤ 10000000) (w : World) :
    Calls Tryz.prog 16 #[.string (mkB l)] w fun e w' => e = numV (numL l) ∧ w = w' := by
  have hsz := mkB_size l
  by_cases h0 : l.length = 0
  · obtain rfl : l = [] := List.length_eq_zero_iff.1 h0
    rw [numL_empty]
    have hq : ((mkB []).toList == []) = true := by rw [ByteArray.toList_eq]; rfl
    go_enter Tryz.func16, Tryz.ntmps16
    go_wp2_with fail
    go_ret2
    exact ⟨rfl, rfl⟩
  have hq : ((mkB l).toList == []) = false := by
    rw [ByteArray.toList_eq]
    exact beq_eq_false_iff_ne.2 (fun e => h0 (by rw [show l = [] from e]; rfl))
  by_cases h4 : 4 < l.length
  · have h4' : (4 : Int) < (l.length : Int) := by omega
    rw [numL_long h4]
    go_enter Tryz.func16, Tryz.ntmps16
    go_wp2_with fail
    go_ret2
    exact ⟨rfl, rfl⟩
  have h4' : ¬ (4 : Int) < (l.length : Int) := by omega
  have hp : 0 < l.length := by omega
  have hps : 0 < (mkB l).size := by rw [hsz]; exact hp
  have hp' : (0 : Int) < (l.length : Int) := by omega
  have hg0 := byte_at l hp hps
  by_cases hz : l[0] = 48 ∧ 1 < l.length
  · have hq1 : ((((mkB l)[0]'hps).toNat : Int) == 48) = true := byte_eq (c := 48) (hg0.trans hz.1)
    have hl1 : (1 : Int) < (l.length : Int) := by omega
    rw [numL_zero ((headD_get hp).trans hz.1) hz.2]
    clear hz hg0
    go_enter Tryz.func16, Tryz.ntmps16
    go_wp2_with fail
    go_ret2
    exact ⟨rfl, rfl⟩
  have hzz : l.headD 0 = 48 → ¬ 1 < l.length := fun e h => hz ⟨(headD_get hp).symm.trans e, h⟩
  have Hzz := hid hzz
  have hz1 : ∀ b0 : Bool, ((((mkB l)[0]'hps).toNat : Int) == 48) = b0 → b0 = true → ¬ (1 : Int) < (l.length : Int) := fun b0 hb0 e h => hz ⟨by
    rw [e] at hb0
    have := eq_of_beq hb0
    rw [hg0] at this
    exact UInt8.toNat_inj.1 (by show l[0].toNat = 48; omega), by omega⟩
  have Hz1 := hid hz1
  clear hz hzz hg0 hz1
  have main : ∀ (b0 : Bool), ((((mkB l)[0]'hps).toNat : Int) == 48) = b0 → (b0 = true → ¬ (1 : Int) < (l.length : Int)) → Calls Tryz.prog 16 #[.string (mkB l)] w fun e w' => e = numV (numL l) ∧ w = w' := by
    intro b0 hb0 hz1
    obtain ⟨N, hN⟩ : ∃ N, numL l = N := ⟨_, rfl⟩
    rw [hN]
    have HN := hid hN
    clear hN
    cases b0 with
    | false =>
      clear hz1
      go_enter Tryz.func16, Tryz.ntmps16
      go_wp2_with fail
      go_loopw [4, 5] (fun v i wr => ∃ k : Nat, k ≤ l.length ∧ i = .int .i64 k ∧ v = .int .i64 ((valN 0 (l.take k) : Nat) : Int) ∧ (∀ b ∈ l.take k, isDig b = true) ∧ wr = w) (fun _ i _ => l.length - (intOf i).toNat)
      case atStart => exact ⟨0, Nat.zero_le _, rfl, rfl, (fun b hb => by cases hb), rfl⟩
      case round =>
        obtain ⟨k, hk, rfl, rfl, hd, rfl⟩ := hrel
        by_cases hlt : k < l.length
        · have hlt' : (k : Int) < (l.length : Int) := by omega
          have hks : k < (mkB l).size := by rw [hsz]; exact hlt
          have hgk := byte_at l hlt hks
          obtain ⟨x, hx⟩ : ∃ x : Nat, x = ((mkB l)[k]'hks).toNat := ⟨_, rfl⟩
          have hxl : x = l[k].toNat := hx.trans (congrArg UInt8.toNat hgk)
          by_cases hlo : x < 48
          · have hq2 : ((((mkB l)[k]'hks).toNat : Nat) : Int) < 48 := by omega
            have hno : numL l = none := numL_nodig hlt (fun h => by have := isDig_iff.1 h; omega)
            obtain rfl := HN.out.symm.trans hno
            clear hno hgk hx hxl hd
            go_wp2_with fail
            go_ret2
            exact ⟨rfl, rfl⟩
          · by_cases hhi : 57 < x
            · have hq2 : ¬ ((((mkB l)[k]'hks).toNat : Nat) : Int) < 48 := by omega
              have hq3 : (57 : Int) < ((((mkB l)[k]'hks).toNat : Nat) : Int) := by omega
              have hno : numL l = none := numL_nodig hlt (fun h => by have := isDig_iff.1 h; omega)
              obtain rfl := HN.out.symm.trans hno
              clear hno hgk hx hxl hd
              go_wp2_with fail
              go_ret2
              exact ⟨rfl, rfl⟩
            · have hq2 : ¬ ((((mkB l)[k]'hks).toNat : Nat) : Int) < 48 := by omega
              have hq3 : ¬ (57 : Int) < ((((mkB l)[k]'hks).toNat : Nat) : Int) := by omega
              have hdk : isDig l[k] = true := isDig_iff.2 ⟨by omega, by omega⟩
              have hle := valN_le (l.take k) 0 (by decide) hd (by rw [List.length_take]; omega)
              have hst := valN_take hlt
              have hd2 : ∀ b ∈ l.take (k + 1), isDig b = true := fun b hb => by
                rw [List.take_succ_eq_append_getElem hlt] at hb
                rcases List.mem_append.1 hb with hb | hb
                · exact hd b hb
                · rw [List.mem_singleton.1 hb]; exact hdk
              generalize valN 0 (l.take k) = V at *
              have hst2 : ((valN 0 (l.take (k + 1)) : Nat) : Int) = (V : Int) * 10 + (((mkB l)[k]'hks).toNat : Int) - 48 := by
                have e1 : ((mkB l)[k]'hks).toNat = l[k].toNat := congrArg UInt8.toNat hgk
                have e2 := (isDig_iff.1 hdk).1
                rw [hst, e1]
                unfold stepV
                omega
              have Hst2 := hid hst2
              have hV : (V : Int) ≤ 100000000000 := by omega
              have hb2 : ((((mkB l)[k]'hks).toNat : Nat) : Int) ≤ 57 := by omega
              have Hd2 := hid hd2
              clear hgk hx hxl hd hst hst2 hd2 hle hlo hhi
              go_wp2_with fail
              go_roundw
              case rel => exact ⟨k + 1, by omega, by go_num, by rw [Hst2.out], Hd2.out, by first | trivial | rfl⟩
              case measure => simp [intOf]; omega
        · obtain rfl : k = l.length := by omega
          rw [List.take_length] at hd ⊢
          have hN := numL_of (by omega) (by omega) Hzz.out hd
          obtain rfl := HN.out.symm.trans hN
          clear hd hN
          go_wp2_with fail
          go_ret2
          exact ⟨rfl, rfl⟩
    | true =>
      have hz2 := hz1 rfl
      clear hz1
      go_enter Tryz.func16, Tryz.ntmps16
      go_wp2_with fail
      go_loopw [4, 5] (fun v i wr => ∃ k : Nat, k ≤ l.length ∧ i = .int .i64 k ∧ v = .int .i64 ((valN 0 (l.take k) : Nat) : Int) ∧ (∀ b ∈ l.take k, isDig b = true) ∧ wr = w) (fun _ i _ => l.length - (intOf i).toNat)
      case atStart => exact ⟨0, Nat.zero_le _, rfl, rfl, (fun b hb => by cases hb), rfl⟩
      case round =>
        obtain ⟨k, hk, rfl, rfl, hd, rfl⟩ := hrel
        by_cases hlt : k < l.length
        · have hlt' : (k : Int) < (l.length : Int) := by omega
          have hks : k < (mkB l).size := by rw [hsz]; exact hlt
          have hgk := byte_at l hlt hks
          obtain ⟨x, hx⟩ : ∃ x : Nat, x = ((mkB l)[k]'hks).toNat := ⟨_, rfl⟩
          have hxl : x = l[k].toNat := hx.trans (congrArg UInt8.toNat hgk)
          by_cases hlo : x < 48
          · have hq2 : ((((mkB l)[k]'hks).toNat : Nat) : Int) < 48 := by omega
            have hno : numL l = none := numL_nodig hlt (fun h => by have := isDig_iff.1 h; omega)
            obtain rfl := HN.out.symm.trans hno
            clear hno hgk hx hxl hd
            go_wp2_with fail
            go_ret2
            exact ⟨rfl, rfl⟩
          · by_cases hhi : 57 < x
            · have hq2 : ¬ ((((mkB l)[k]'hks).toNat : Nat) : Int) < 48 := by omega
              have hq3 : (57 : Int) < ((((mkB l)[k]'hks).toNat : Nat) : Int) := by omega
              have hno : numL l = none := numL_nodig hlt (fun h => by have := isDig_iff.1 h; omega)
              obtain rfl := HN.out.symm.trans hno
              clear hno hgk hx hxl hd
              go_wp2_with fail
              go_ret2
              exact ⟨rfl, rfl⟩
            · have hq2 : ¬ ((((mkB l)[k]'hks).toNat : Nat) : Int) < 48 := by omega
              have hq3 : ¬ (57 : Int) < ((((mkB l)[k]'hks).toNat : Nat) : Int) := by omega
              have hdk : isDig l[k] = true := isDig_iff.2 ⟨by omega, by omega⟩
              have hle := valN_le (l.take k) 0 (by decide) hd (by rw [List.length_take]; omega)
              have hst := valN_take hlt
              have hd2 : ∀ b ∈ l.take (k + 1), isDig b = true := fun b hb => by
                rw [List.take_succ_eq_append_getElem hlt] at hb
                rcases List.mem_append.1 hb with hb | hb
                · exact hd b hb
                · rw [List.mem_singleton.1 hb]; exact hdk
              generalize valN 0 (l.take k) = V at *
              have hst2 : ((valN 0 (l.take (k + 1)) : Nat) : Int) = (V : Int) * 10 + (((mkB l)[k]'hks).toNat : Int) - 48 := by
                have e1 : ((mkB l)[k]'hks).toNat = l[k].toNat := congrArg UInt8.toNat hgk
                have e2 := (isDig_iff.1 hdk).1
                rw [hst, e1]
                unfold stepV
                omega
              have Hst2 := hid hst2
              have hV : (V : Int) ≤ 100000000000 := by omega
              have hb2 : ((((mkB l)[k]'hks).toNat : Nat) : Int) ≤ 57 := by omega
              have Hd2 := hid hd2
              clear hgk hx hxl hd hst hst2 hd2 hle hlo hhi
              go_wp2_with fail
              go_roundw
              case rel => exact ⟨k + 1, by omega, by go_num, by rw [Hst2.out], Hd2.out, by first | trivial | rfl⟩
              case measure => simp [intOf]; omega
        · obtain rfl : k = l.length := by omega
          rw [List.take_length] at hd ⊢
          have hN := numL_of (by omega) (by omega) Hzz.out hd
          obtain rfl := HN.out.symm.trans hN
          clear hd hN
          go_wp2_with fail
          go_ret2
          exact ⟨rfl, rfl⟩
  exact main _ rfl (Hz1.out _ rfl)
end Go.Proofs.YtemhdfodghfkfaaGreatDoor
