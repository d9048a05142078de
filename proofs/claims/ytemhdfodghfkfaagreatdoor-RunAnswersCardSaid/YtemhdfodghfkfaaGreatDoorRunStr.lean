/-
  CONTRACTS of strings.Split at a space, run.number, numbers, strings.TrimSuffix, the writes of a strings.Builder, api.Errno's Error. CONDITIONS: the library's variables read as they are laid (Tr).
  CONTRACTS of run.number, numbers, strings.TrimSuffix at a newline, api.Errno's Error, the writes of a strings.Builder. CONDITIONS: the library's variables read as they are laid (Tr).
  CONTRACTS of the writes of a strings.Builder of the call's own, of strings.TrimSuffix at a newline, of api.Errno's Error. CONDITIONS: none.
-/
import Derived.Test.YtemhdfodghfkfaaGreatDoorRunMod
import Derived.Test.YtemhdfodghfkfaaGreatDoorRunAs
import Derived.Test.YtemhdfodghfkfaaGreatDoorDoorR
import Derived.Test.YtemhdfodghfkfaaGreatDoorShelf
import Derived.Deep.RegionLaw
import Derived.Deep.CutBlock
import Derived.Deep.DeepCutAuto
import Derived.BigQuiet
import Derived.Test.YtemhdfodghfkfaaGreatDoorIKit
import Derived.Lib.Builder
import Derived.Lib.AppendStr
import Derived.Lib.UnsafeStr
import Derived.Laws.Externs
namespace Go.Proofs.YtemhdfodghfkfaaGreatDoor
open Go.RowKit
open Go.ChangeShapes Go.WideShapes Go.ChangeAt

/-! ### plain: numbers -/
theorem parse_nil (acc : Nat) : Lib.parseUint10 acc [] = .ok acc := rfl
theorem parse_cons (acc : Nat) (b : UInt8) (r : List UInt8) : Lib.parseUint10 acc (b :: r) = if 48 ≤ b.toNat ∧ b.toNat ≤ 57 then (if 1844674407370955162 ≤ acc then .range else if 18446744073709551616 ≤ acc * 10 + (b.toNat - 48) then .range else Lib.parseUint10 (acc * 10 + (b.toNat - 48)) r) else Lib.NumEnd.syntax := rfl
theorem parse_step {b : UInt8} (h : isDig b = true) {acc : Nat} (ha : acc < 1000000) (r : List UInt8) : Lib.parseUint10 acc (b :: r) = Lib.parseUint10 (stepV acc b) r := by
  have hd : 48 ≤ b.toNat ∧ b.toNat ≤ 57 := by
    unfold isDig at h
    simpa using h
  have h1 : ¬ 1844674407370955162 ≤ acc := by omega
  have h2 : ¬ 18446744073709551616 ≤ acc * 10 + (b.toNat - 48) := by omega
  rw [parse_cons]
  rw [← show stepV acc b = acc * 10 + (b.toNat - 48) from rfl] at h2 ⊢
  generalize stepV acc b = x at *
  rw [if_pos hd, if_neg h1, if_neg h2]
theorem parse_aux (acc d p : Nat) (hd : d < 10) (h : (acc + 1) * (p * 10) ≤ 10000) (hp : 1 ≤ p) : acc < 1000000 ∧ (acc * 10 + d + 1) * p ≤ 10000 := by
  have h3 : (acc + 1) * (p * 10) = (acc + 1) * 10 * p := by rw [Nat.mul_comm p 10, Nat.mul_assoc]
  rw [h3] at h
  have h2 : (acc + 1) * 10 * 1 ≤ (acc + 1) * 10 * p := Nat.mul_le_mul_left _ hp
  exact ⟨by omega, Nat.le_trans (Nat.mul_le_mul_right _ (by omega)) h⟩
theorem parse_val (l : List UInt8) : ∀ acc : Nat, (∀ b ∈ l, isDig b = true) → (acc + 1) * 10 ^ l.length ≤ 10000 → Lib.parseUint10 acc l = .ok (valN acc l) := by
  induction l with
  | nil => exact fun acc _ _ => rfl
  | cons b r ih =>
    intro acc hd ha
    have hb := hd b (List.mem_cons_self ..)
    have hx : b.toNat - 48 < 10 := (dig_back hb).2
    obtain ⟨h1, h2⟩ := parse_aux acc (b.toNat - 48) (10 ^ r.length) hx (by rw [← Nat.pow_succ]; exact ha) (Nat.one_le_pow _ _ (by omega))
    rw [parse_step hb h1, valN_cons]
    exact ih _ (fun c hc => hd c (List.mem_cons_of_mem _ hc)) h2
theorem numL_facts {l : List UInt8} {n : Nat} (h : numL l = some n) : l.length ≠ 0 ∧ l.length ≤ 4 ∧ (∀ b ∈ l, isDig b = true) ∧ valN 0 l = n := by
  unfold numL at h
  split at h
  · cases h
  · rename_i hc
    refine ⟨fun hx => hc (.inl hx), Nat.le_of_not_lt (fun hx => hc (.inr (.inl hx))), ?_, Option.some.inj h⟩
    have hall : l.all isDig = true := by
      rcases hh : l.all isDig with _ | _
      · exact absurd (.inr (.inr (.inr hh))) hc
      · rfl
    exact List.all_eq_true.1 hall
theorem atoiAll_num {l : List UInt8} {n : Nat} (h : numL l = some n) : Lib.atoiAll l = .ok (n : Int) := by
  obtain ⟨h0, h4, hd, hv⟩ := numL_facts h
  have hn := (numL_some h).1
  match l, h0, h4, hd, hv with
  | c :: r, _, h4, hd, hv =>
    have hc := hd c (List.mem_cons_self ..)
    unfold isDig at hc
    simp at hc
    have hp : Lib.parseMag (c :: r) = .ok n := by
      rw [Lib.parseMag, if_neg (by simp), parse_val (c :: r) 0 hd (by
        have : 10 ^ (c :: r).length ≤ 10 ^ 4 := Nat.pow_le_pow_right (by decide) h4
        simpa using this), hv]
    unfold Lib.atoiAll
    simp only
    rw [if_neg (by omega), hp]
    simp only
    rw [if_neg (by omega), if_neg (by omega), if_neg (by omega)]
theorem num_back {l : List UInt8} {k : Int} (h0 : 0 ≤ k) (h4 : l.length ≤ 4) (he : l = Lib.itoa k) : numL l = some k.toNat := by
  rw [Lib.itoa, if_neg (by omega)] at he
  have hl : Lib.nDigits k.toNat ≤ 4 := by rw [← Lib.decDigits_length, ← he]; exact h4
  have hk : k.toNat < 10000 := Nat.lt_of_lt_of_le (Lib.lt_pow_nDigits k.toNat) (Nat.pow_le_pow_right (by decide) hl)
  rw [he, digN_eq hk, numL_dig hk]
theorem itoa_num {l : List UInt8} {n : Nat} (h : numL l = some n) : Lib.itoa (n : Int) = l := by
  obtain ⟨h1, h2⟩ := numL_some h
  rw [Lib.itoa, if_neg (by omega), Int.toNat_natCast, digN_eq h1, h2]
theorem atoiAll_i64 {l : List UInt8} {k : Int} (h : Lib.atoiAll l = .ok k) : -9223372036854775808 ≤ k ∧ k ≤ 9223372036854775807 := by
  unfold Lib.atoiAll at h
  split at h
  · cases h
  · simp only at h
    split at h
    · cases h
    · cases h
    · split at h
      · cases h
      · split at h
        · cases h
        · injection h with h
          rw [← h]
          split <;> omega

/-! ### texts -/
theorem str_ne {x y : ByteArray} (h : ¬ x.data.toList = y.data.toList) : (x.toList == y.toList) = false := by
  rw [ByteArray.toList_eq, ByteArray.toList_eq]
  exact beq_eq_false_iff_ne.2 h
theorem str_eq {x y : ByteArray} (h : x.data.toList = y.data.toList) : (x.toList == y.toList) = true := by
  rw [ByteArray.toList_eq, ByteArray.toList_eq, h]
  exact beq_self_eq_true _
theorem split_any (s : ByteArray) (hs : s.size ≤ 3000) (w : World) (hT : Tr w) :
    Calls Tryz.prog 48 #[.string s, .string ⟨#[32]⟩] w fun e w' => ∃ r : SlV ByteArray, e = .returned (.slice r.A r.xs.length r.c) ∧ r.xs = (cutC 32 s.data.toList).map mkB ∧ StrsAt w' r ∧ r.xs.length ≤ r.c ∧ Below w.heap.size w w' := by
  obtain ⟨m, hm⟩ := hT.ml
  have hsp := split_cut 32 s
  have hall := Lib.splitB_all (mkB [32]) (Nat.le_refl 1) 0 (Lib.countB s (mkB [32])) s rfl
  refine (Tryz.strings_Split s ⟨#[32]⟩ m w (by omega) hm (Nat.le_refl 1)).mono ?_
  rintro e w' ⟨rfl, rfl⟩
  rw [hsp] at hall
  refine ⟨⟨some ⟨w.heap.size, 0, none⟩, Lib.countB s (mkB [32]) + 1, (cutC 32 s.data.toList).map mkB⟩, by rw [hall]; rfl, rfl, ⟨fun _ => ⟨w.heap.size, 0, rfl, by simp, fun i hi => ?_⟩, fun x hx => ?_, ?_⟩, by rw [hall]; exact Nat.le_refl _, (Below.refl _ _).alloc (Nat.le_refl _) _⟩
  · rw [Nat.zero_add]
    have hc := (Blk.new w 9 (((cutC 32 s.data.toList).map mkB).map Value.string).toArray).cell i
    rw [show Lib.splitB ⟨#[32]⟩ 0 (Lib.countB s ⟨#[32]⟩) s = (cutC 32 s.data.toList).map mkB from hsp]
    rw [hc]
    simp at hi ⊢
    simp [hi]
  · obtain ⟨p, hp, rfl⟩ := List.mem_map.1 hx
    have := cutC_len 32 s.data.toList p hp
    rw [mkB_size]
    have hs2 : s.data.toList.length = s.size := (Lib.size_eq s).symm
    unfold maxLen
    omega
  · show ((cutC 32 s.data.toList).map mkB).length ≤ maxLen
    rw [List.length_map]
    have := cutC_many 32 s.data.toList
    have hs2 : s.data.toList.length = s.size := (Lib.size_eq s).symm
    unfold maxLen
    omega
/-- strconv.Atoi, all its ways -/
theorem atoi3_any (t : ByteArray) (ht : t.size ≤ 3000) (w : World) (hT : Tr w) :
    Calls Tryz.prog 105 #[.string t] w fun e w' => ∃ (k : Int) (ev : Value), e = .returned (.tuple #[.int .i64 k, ev]) ∧ ((ev = .nilIface ∧ Lib.atoiAll t.data.toList = .ok k) ∨ ((∃ te pe, ev = .iface te pe) ∧ ∀ v, Lib.atoiAll t.data.toList ≠ .ok v)) ∧ Below w.heap.size w w' := by
  obtain ⟨a, b, hs⟩ := hT.es
  obtain ⟨c, d, hr⟩ := hT.er
  rcases hh : Lib.atoiAll t.data.toList with v | _ | _
  · refine (Tryz.strconv_Atoi_ok t (by omega) v hh w).mono ?_
    rintro e w' ⟨rfl, rfl | ⟨x, rfl⟩⟩
    · exact ⟨v, _, rfl, .inl ⟨rfl, rfl⟩, Below.refl _ _⟩
    · exact ⟨v, _, rfl, .inl ⟨rfl, rfl⟩, bytesWorld_below _ _ _⟩
  · refine (Tryz.strconv_Atoi_syntax t (by omega) hh _ w hs (.inr ⟨a, b, rfl⟩)).mono ?_
    rintro e w' ⟨N, rfl, -, -, hb⟩
    exact ⟨_, _, rfl, .inr ⟨⟨_, _, rfl⟩, fun v h => by cases h⟩, hb⟩
  · refine (Tryz.strconv_Atoi_range t (by omega) hh _ w hr (.inr ⟨c, d, rfl⟩)).mono ?_
    rintro e w' ⟨N, rfl, -, -, hb⟩
    exact ⟨_, _, rfl, .inr ⟨⟨_, _, rfl⟩, fun v h => by cases h⟩, hb⟩
end Go.Proofs.YtemhdfodghfkfaaGreatDoor
namespace Go.Proofs.YtemhdfodghfkfaaGreatDoor
open Go.RowKit
open Go.ChangeShapes Go.WideShapes Go.ChangeAt

theorem lst_eq {l : List UInt8} {t : ByteArray} (h : l = t.data.toList) : (l == t.toList) = true := by
  rw [ByteArray.toList_eq, h]
  exact beq_self_eq_true _
theorem lst_ne {l : List UInt8} {t : ByteArray} (h : ¬ l = t.data.toList) : (l == t.toList) = false := by
  rw [ByteArray.toList_eq]
  exact beq_eq_false_iff_ne.2 h
/-- what run.number tells -/
def NumR (N : Option Nat) (w : World) (e : Ending) (w' : World) : Prop := ∃ k : Int, e = .returned (.tuple #[.int .i64 k, .bool N.isSome]) ∧ (∀ n, N = some n → k = (n : Int)) ∧ Below w.heap.size w w'
set_option maxHeartbeats 2000000 in
theorem number_any (t : ByteArray) (ht : t.size ≤ 3000) (w : World) (hT : Tr w) :
    Calls Tryz.prog 73 #[.string t] w (NumR (numL t.data.toList) w) := by
  have HA := hid (atoi3_any t ht w hT)
  have HI := hid (fun (k : Int) (h0 : -9223372036854775808 ≤ k) (h1 : k ≤ 9223372036854775807) W (hW : Below w.heap.size w W) => itoa_any k h0 h1 W (hT.belowS hW).tb)
  have hsz : t.data.toList.length = t.size := (Lib.size_eq t).symm
  obtain ⟨N, hNe⟩ : ∃ N, numL t.data.toList = N := ⟨_, rfl⟩
  rw [hNe]
  have HNe := hid hNe
  clear hT hNe
  go_enter Tryz.func73, Tryz.ntmps73
  go_wp2_with fail
  refine HA.out.mono ?_
  rintro e w1 ⟨k, ev, rfl, hk, hb1⟩
  have Hb1 := hid hb1
  rcases hk with ⟨rfl, hk⟩ | ⟨⟨te, pe, rfl⟩, hno⟩
  · have hi := atoiAll_i64 hk
    have hyes : ∀ n, numL t.data.toList = some n → k = (n : Int) := fun n h => by
      have := atoiAll_num h
      rw [hk] at this
      injection this
    by_cases h0 : 0 ≤ k
    · by_cases h4 : (t.size : Int) ≤ 4
      · have HI1 := hid (HI.out k hi.1 hi.2 w1 hb1)
        have Hyes := hid hyes
        by_cases he : t.data.toList = Lib.itoa k
        · have hN : numL t.data.toList = some k.toNat := num_back h0 (by omega) he
          have hq : (Lib.itoa k == t.toList) = true := lst_eq he.symm
          obtain rfl := HNe.out.symm.trans hN
          clear hN hyes he hk hb1 HI HA hi
          go_wp2_with fail
          refine HI1.out.mono ?_
          rintro e w2 ⟨rfl, hb2⟩
          have Hb2 := hid (Below.step Hb1.out hb2 Hb1.out.size)
          clear hb2
          go_wp2_with fail
          go_ret2
          exact ⟨k, rfl, (fun n h => by injection h with h; omega), Hb2.out⟩
        · have hN : numL t.data.toList = none := by
            cases hn : numL t.data.toList with
            | none => rfl
            | some n =>
              have := itoa_num hn
              rw [← hyes n hn] at this
              exact absurd this.symm he
          have hq : (Lib.itoa k == t.toList) = false := lst_ne (fun e => he e.symm)
          obtain rfl := HNe.out.symm.trans hN
          clear hN hyes he hk hb1 HI HA hi
          go_wp2_with fail
          refine HI1.out.mono ?_
          rintro e w2 ⟨rfl, hb2⟩
          have Hb2 := hid (Below.step Hb1.out hb2 Hb1.out.size)
          clear hb2
          go_wp2_with fail
          go_ret2
          exact ⟨k, rfl, (fun n h => by cases h), Hb2.out⟩
      · have hN : numL t.data.toList = none := by
          cases hn : numL t.data.toList with
          | none => rfl
          | some n => have := (numL_facts hn).2.1; omega
        obtain rfl := HNe.out.symm.trans hN
        clear hN hyes hk hb1 HI HA hi
        go_wp2_with fail
        go_ret2
        exact ⟨k, rfl, (fun n h => by cases h), Hb1.out⟩
    · have hN : numL t.data.toList = none := by
        cases hn : numL t.data.toList with
        | none => rfl
        | some n => have := hyes n hn; omega
      obtain rfl := HNe.out.symm.trans hN
      clear hN hyes hk hb1 HI HA hi
      go_wp2_with fail
      go_ret2
      exact ⟨k, rfl, (fun n h => by cases h), Hb1.out⟩
  · have hN : numL t.data.toList = none := by
      cases hn : numL t.data.toList with
      | none => rfl
      | some n => exact absurd (atoiAll_num hn) (hno _)
    obtain rfl := HNe.out.symm.trans hN
    clear hN hno hb1 HI HA
    go_wp2_with fail
    go_ret2
    exact ⟨k, rfl, (fun n h => by cases h), Hb1.out⟩

/-! ### numbers -/
theorem numsL_snoc : ∀ (a : List Tx) (x : Tx), numsL (a ++ [x]) = match numsL a, numL x with
    | some l, some n => some (l ++ [n])
    | _, _ => none
  | [], x => by
    rw [List.nil_append, numsL, numsL]
    cases numL x with
    | none => rfl
    | some n => rfl
  | y :: a, x => by
    rw [List.cons_append, numsL, numsL, numsL_snoc a x]
    cases numL y with
    | none => simp
    | some m =>
      cases numsL a with
      | none => simp
      | some l =>
        cases numL x with
        | none => simp
        | some n => simp
theorem numsL_bad : ∀ (a : List Tx) (x : Tx) (r : List Tx), numL x = none → numsL (a ++ x :: r) = none
  | [], x, r, h => by rw [List.nil_append, numsL, h]
  | y :: a, x, r, h => by
    rw [List.cons_append, numsL, numsL_bad a x r h]
    cases numL y with
    | none => rfl
    | some m => rfl
theorem numsL_len : ∀ (a : List Tx) {l : List Nat}, numsL a = some l → l.length = a.length
  | [], l, h => by
    injection h with h
    rw [← h]
    rfl
  | y :: a, l, h => by
    rw [numsL] at h
    cases hy : numL y with
    | none => rw [hy] at h; cases h
    | some m =>
      rw [hy] at h
      simp only at h
      cases ha : numsL a with
      | none => rw [ha] at h; cases h
      | some q =>
        rw [ha] at h
        injection h with h
        rw [← h, List.length_cons, List.length_cons, numsL_len a ha]
/-- texts of words -/
def txs (s : SlV ByteArray) : List Tx := s.xs.map (fun x => x.data.toList)
theorem txs_get (s : SlV ByteArray) {k : Nat} (hk : k < s.xs.length) {h : k < (txs s).length} : (txs s)[k] = s.xs[k].data.toList := List.getElem_map (fun x : ByteArray => x.data.toList)
/-- what run.numbers tells -/
def NumsR (N : Option (List Nat)) (w : World) (e : Ending) (w' : World) : Prop := ∃ r : SlV Int, e = .returned (.tuple #[.slice r.A r.xs.length r.c, .bool N.isSome]) ∧ (∀ l, N = some l → r.xs = l.map (fun (n : Nat) => (n : Int))) ∧ Ow cellI 1 w.heap.size 3 w' (.slice r.A r.xs.length r.c) r.xs ∧ r.xs.length ≤ 4000 ∧ Below w.heap.size w w'
set_option maxHeartbeats 2000000 in
theorem numbers_any (s : SlV ByteArray) (w : World) (hs : StrsAt w s) (hT : Tr w) (h3 : ∀ x ∈ s.xs, x.size ≤ 3000) (hm : s.xs.length ≤ 4000) :
    Calls Tryz.prog 50 #[.slice s.A s.xs.length s.c] w (NumsR (numsL (txs s)) w) := by
  have HN := hid (fun (x : ByteArray) (hx : x.size ≤ 3000) W (hW : Below w.heap.size w W) => number_any x hx W (hT.belowS hW))
  have H3 := hid h3
  obtain ⟨N, hNe⟩ : ∃ N, numsL (txs s) = N := ⟨_, rfl⟩
  rw [hNe]
  have HNe := hid hNe
  clear hT h3 hNe
  go_enter Tryz.func50, Tryz.ntmps50
  go_wp2_with fail
  go_loopw [4, 11] (fun v i wr => ∃ (k : Nat) (l : List Nat), k ≤ s.xs.length ∧ i = .int .i64 k ∧ l.length = k ∧ numsL ((txs s).take k) = some l ∧ Ow cellI 1 w.heap.size 3 wr v (l.map (fun (n : Nat) => (n : Int))) ∧ Below w.heap.size w wr) (fun _ i _ => s.xs.length - (intOf i).toNat)
  case atStart => exact ⟨0, [], Nat.zero_le _, rfl, rfl, rfl, Ow.nil _ _ _ _ _, Below.refl _ _⟩
  case round =>
    obtain ⟨k, l, hk, rfl, hlk, hl, hO, hbr⟩ := hrel
    obtain ⟨wj, rfl⟩ : ∃ wj : World, wj = wr := ⟨_, rfl⟩
    have Hbr := hid hbr
    have hzr := hbr.size
    have HO := hid hO
    have Hl := hid hl
    clear hO hl
    by_cases hlt : k < s.xs.length
    · obtain ⟨b, off, hA, hb, hc⟩ := hs.row (by omega)
      have hx := (hbr.cell (p := ⟨b, off + k, none⟩) hb).trans (hc k hlt)
      have hx3 := H3.out _ (List.getElem_mem hlt)
      have htk : (txs s).take (k + 1) = (txs s).take k ++ [s.xs[k].data.toList] := by
        unfold txs
        rw [List.take_add_one, List.getElem?_map, List.getElem?_eq_getElem hlt]
        rfl
      have htd : txs s = (txs s).take k ++ s.xs[k].data.toList :: (txs s).drop (k + 1) := by
        have h1 : k < (txs s).length := by unfold txs; rw [List.length_map]; exact hlt
        have h2 : (txs s)[k] = s.xs[k].data.toList := txs_get s hlt
        rw [← h2, ← List.drop_eq_getElem_cons h1, List.take_append_drop]
      have HN1 := hid (HN.out _ hx3 wj hbr)
      have Htk := hid htk
      have Htd := hid htd
      generalize s.xs[k] = x at *
      rw [hA]
      clear hA hc htk htd hbr
      go_wp2_with fail
      refine HN1.out.mono ?_
      rintro e w1 ⟨n, rfl, hn, hb1⟩
      have Hb1 := hid (Below.step Hbr.out hb1 hzr)
      have HO1 := hid (HO.out.belowS hb1)
      cases hN : numL x.data.toList with
      | none =>
        have hbad : numsL (txs s) = none := by rw [Htd.out]; exact numsL_bad _ _ _ hN
        obtain rfl := HNe.out.symm.trans hbad
        rw [show (none : Option Nat).isSome = false from rfl]
        clear hN hn hb1 hbad HN1
        go_wp2_with fail
        go_ret2
        exact ⟨⟨none, 0, []⟩, rfl, (fun l h => by cases h), Ow.nil _ _ _ _ _, by simp, Hb1.out⟩
      | some m =>
        obtain rfl := hn m hN
        have hnew : numsL ((txs s).take (k + 1)) = some (l ++ [m]) := by rw [Htk.out, numsL_snoc, Hl.out, hN]
        have Hnew := hid hnew
        have hz1 := Hb1.out.size
        rw [show (some m : Option Nat).isSome = true from rfl]
        clear hN hn hb1 hnew HN1 HO
        go_wp2_with (at_builtin; refine appI _ w.heap.size _ (l.map (fun (n : Nat) => (n : Int))) (m : Int) HO1.out rfl _ _ rfl rfl rfl ?_ ?_ ?_ ?_)
        any_goals (first | (with_reducible rfl) | omega | (rw [List.length_map]; omega))
        intro v8 w8 h8 f8 o8
        have hb8 : Below w.heap.size w w8 := Hb1.out.trans (f8.below0 hz1 (fun i hi => HO1.out.ge _ hi))
        go_wp2_with fail
        go_roundw
        case rel => exact ⟨k + 1, l ++ [m], by omega, by go_num, by rw [List.length_append, List.length_singleton, hlk], Hnew.out, by rw [List.map_append]; exact h8, hb8⟩
        case measure => simp [intOf]; omega
    · obtain rfl : k = s.xs.length := by omega
      have hfull : numsL (txs s) = some l := by
        have := Hl.out
        rwa [List.take_of_length_le (by unfold txs; rw [List.length_map]; exact Nat.le_refl _)] at this
      obtain ⟨r, hv, hrx, hrA, hro, -⟩ := IntsAt.of_ow HO.out
      have Hrx := hid hrx
      obtain rfl := HNe.out.symm.trans hfull
      subst hv
      clear hfull hrA hrx hro hbr
      go_wp2_with fail
      go_ret2
      exact ⟨r, rfl, (fun q h => by injection h with h; rw [Hrx.out, h]), by have := HO.out; rwa [← Hrx.out] at this, by rw [Hrx.out, List.length_map]; omega, Hbr.out⟩
end Go.Proofs.YtemhdfodghfkfaaGreatDoor
namespace Go.Proofs.YtemhdfodghfkfaaGreatDoor
open Go.RowKit
open Go.ChangeShapes Go.WideShapes Go.ChangeAt

theorem sizeBld : (Tryz.prog.info? 45).map (·.size) = some 2 := by kernel_rfl
theorem liesBld : liesAt Tryz.prog Tryz.prog.depth 45 (2 / Tryz.prog.cellsOf 45) 0 45 1 = true := by kernel_rfl
set_option maxHeartbeats 1000000 in
set_option maxRecDepth 100000 in
theorem check_used (b : Nat) (w : World) (h0 : w.cell? ⟨b, 0, none⟩ = some (.pointer (some ⟨b, 0, none⟩))) :
    Calls Tryz.prog 27 #[.pointer (some ⟨b, 0, none⟩)] w fun e w' => e = .returned (.tuple #[]) ∧ w' = w := by
  obtain ⟨j, hj, _⟩ := Option.map_eq_some_iff.1 sizeBld
  go_enter Tryz.func27, Tryz.ntmps27
  go_wp2
  rw [Lib.run_neq_ptr_same w _ Tryz.underlying42 hj]
  go_wp2
  go_end0
  exact ⟨rfl, rfl⟩
set_option maxHeartbeats 1000000 in
set_option maxRecDepth 100000 in
theorem check_fresh (b : Nat) (w : World) (h0 : w.cell? ⟨b, 0, none⟩ = some (.pointer none)) (hsh : w.shape? b = some (45, 2)) (hfz : w.frozen? ⟨b, 0, none⟩ = false) :
    Calls Tryz.prog 27 #[.pointer (some ⟨b, 0, none⟩)] w fun e w' => e = .returned (.tuple #[]) ∧ w' = w.setCell ⟨b, 0, none⟩ (.pointer (some ⟨b, 0, none⟩)) := by
  obtain ⟨j, hj, hjs⟩ := Option.map_eq_some_iff.1 sizeBld
  go_enter Tryz.func27, Tryz.ntmps27
  go_wp2
  rw [Lib.run_to_unsafe w ⟨b, 0, none⟩ Tryz.underlying42 Tryz.underlying102 hj (by rw [hjs]; decide) hsh (Nat.zero_lt_succ 1)]
  simp only [Result.andThen]
  rw [Oper.upon_value]
  go_wp2
  rw [run_callFunc_extern Tryz.func47 (by kernel_rfl) (by kernel_rfl) (by kernel_rfl) (e := Extern.AbiNoEscape.same) (by kernel_rfl)]
  rw [Lib.run_noEscape]
  simp only [Result.andThen]
  rw [Oper.upon_value]
  go_wp2
  rw [Lib.run_from_unsafe w ⟨b, 0, none⟩ Tryz.underlying102 Tryz.underlying42 hj hsh liesBld]
  simp only [Result.andThen]
  rw [Oper.upon_value]
  go_wp2
  go_end0
  exact ⟨rfl, rfl⟩
/-- a builder of the call's own that holds these bytes -/
def BldAt (B b : Nat) (l : Tx) (w : World) : Prop := Lib.IsBuilder 45 5 B b (Lib.byteCells l) w
theorem bcheck_any (B b : Nat) (bs : List Value) (w : World) (h : Lib.IsBuilder 45 5 B b bs w) :
    Calls Tryz.prog 27 #[.pointer (some ⟨b, 0, none⟩)] w fun e w' => e = .returned (.tuple #[]) ∧ (Lib.BuilderAt 45 5 B b (.pointer (some ⟨b, 0, none⟩)) bs w' ∧ Below B w w' ∧ Fr (fun i => i = b) w w') := by
  rcases h with h | h
  · refine (check_fresh b w h.cell0 h.shape h.frozen0).mono ?_
    rintro e w' ⟨rfl, rfl⟩
    exact ⟨rfl, h.used _, (Below.refl B w).setCell (p := ⟨b, 0, none⟩) h.1 _, (Fr.refl (fun i => i = b) w).setCell (p := ⟨b, 0, none⟩) (.inl rfl) _⟩
  · refine (check_used b w h.cell0).mono ?_
    rintro e w' ⟨rfl, rfl⟩
    exact ⟨rfl, h, Below.refl _ _, Fr.refl _ _⟩
/-- the blocks of builders, by their types -/
def SB (w : World) (i : Nat) : Prop := ∃ T cur, Blk w i T cur ∧ (T = 45 ∨ T = 5)
theorem BldAt.sb {B b : Nat} {l : Tx} {w : World} (h : BldAt B b l w) : SB w b := by
  rcases h with ⟨-, v, h2, -⟩ | ⟨-, v, h2, -⟩
  · exact ⟨_, _, h2, .inl rfl⟩
  · exact ⟨_, _, h2, .inl rfl⟩
theorem BldAt.fr {B b : Nat} {l : Tx} {w w' : World} {S : Nat → Prop} (h : BldAt B b l w) (hF : Fr S w w') (hS : ∀ i, SB w i → ¬ S i) : BldAt B b l w' := by
  have hk : ∀ p, Lib.BuilderAt 45 5 B b p (Lib.byteCells l) w → Lib.BuilderAt 45 5 B b p (Lib.byteCells l) w' := fun p hp => by
    have hlt := hp.lt
    obtain ⟨h1, v, h2, ⟨h3, h4⟩, h5⟩ := hp
    refine ⟨h1, v, (hF.block b hlt (hS b ⟨_, _, h2, .inl rfl⟩)).trans h2, ⟨h3, ?_⟩, h5⟩
    rcases h4 with h4 | ⟨g, cap, cur, e1, e2, e3, e4⟩
    · exact .inl h4
    · have hB : Blk w g 5 cur := e3
      exact .inr ⟨g, cap, cur, e1, e2, (hF.block g hB.lt (hS g ⟨_, _, e3, .inr rfl⟩)).trans e3, e4⟩
  exact Or.imp (hk _) (hk _) h
theorem infoB8 : (Tryz.prog.info? 5).map (fun i => (i.zero, i.size, i.bytes)) = some (some (.int .u8 0), 1, 1) := by kernel_rfl
theorem byteCells_app (a b : Tx) : Lib.byteCells a ++ Lib.strCells (mkB b) = Lib.byteCells (a ++ b) := by
  unfold Lib.byteCells Lib.strCells
  rw [List.map_append, mkB_list]
set_option maxHeartbeats 2000000 in
set_option maxRecDepth 100000 in
theorem write_bld (B b : Nat) (l m : Tx) (w : World) (h : BldAt B b l w) (hl : l.length ≤ 100000000) (hm : m.length ≤ 100000000) (hBw : B ≤ w.heap.size) :
    Calls Tryz.prog 12 #[.pointer (some ⟨b, 0, none⟩), .string (mkB m)] w fun e w' => (∃ v, e = .returned v) ∧ BldAt B b (l ++ m) w' ∧ Below B w w' ∧ Fr (SB w) w w' := by
  obtain ⟨i0, hi, hz0, hz1, hz2⟩ := info_parts infoB8
  have hms := mkB_size m
  have hbc := byteCells_app l m
  have HC := hid (bcheck_any B b _ w h)
  have Hsb := hid h.sb
  have hls := Lib.byteCells_length l
  generalize Lib.byteCells l = bs at *
  generalize hs : mkB m = s at *
  go_enter Tryz.func12, Tryz.ntmps12
  go_wp2_with fail
  refine HC.out.mono ?_
  rintro e w1 ⟨rfl, h1, hb1, hf1⟩
  obtain ⟨hB, v, hbk, hown, hne⟩ := h1
  have hSv : ∀ k, v.ownBlock = some k → SB w k ∨ w.heap.size ≤ k := fun k hk => by
    by_cases hlt : k < w.heap.size
    · refine .inl ?_
      have he := hf1.block k hlt (fun e => hne (by rw [hk, e]))
      rcases hown.2 with ⟨hv, _⟩ | ⟨g, cap, cur, hv, _, e3, _⟩
      · rw [hv] at hk; cases hk
      · rw [hv] at hk
        injection hk with hk
        have hgk : g = k := hk
        subst hgk
        exact ⟨_, _, he.symm.trans e3, .inr rfl⟩
    · exact .inr (by omega)
  have c0 : w1.cell? ⟨b, 0, none⟩ = some (.pointer (some ⟨b, 0, none⟩)) := by rw [Lib.cell_of_heap hbk]; rfl
  have c1 : w1.cell? ⟨b, 1, none⟩ = some v := by rw [Lib.cell_of_heap hbk]; rfl
  go_wp2_with (at_builtin; refine Lib.wpList_append_own_string _ rfl _ _ 43 9 rfl B 5 i0 Tryz.underlying43 Tryz.underlying9 hi hz0 hz1 hz2 _ _ _ rfl hown s rfl ?c3 ?c4 ?c5 ?_)
  case c3 => unfold maxLen; omega
  case c4 => omega
  case c5 => have := hb1.size; omega
  intro v' w2 hown' hgrow _
  have hlt : b < w1.heap.size := by
    rcases Nat.lt_or_ge b w1.heap.size with h' | h'
    · exact h'
    · simp [Array.getElem?_eq_none h'] at hbk
  have hb2 : w2.heap[b]? = some (.cells #[.pointer (some ⟨b, 0, none⟩), v] 45 (0, 0)) := by
    rw [hgrow.block b hlt (fun e => hne e.symm)]
    exact hbk
  have d0 : w2.cell? ⟨b, 0, none⟩ = some (.pointer (some ⟨b, 0, none⟩)) := by rw [Lib.cell_of_heap hb2]; rfl
  have d1 : w2.cell? ⟨b, 1, none⟩ = some v := by rw [Lib.cell_of_heap hb2]; rfl
  have f1 : w2.frozen? ⟨b, 1, none⟩ = false := Lib.frozen_of_heap hb2 1
  obtain ⟨ao, n', cap, rfl⟩ : ∃ ao n' cap, v' = .slice ao n' cap := by
    rcases hown'.2 with ⟨hv, _⟩ | ⟨g, cap, cur, hv, _⟩
    · exact ⟨_, _, _, hv⟩
    · exact ⟨_, _, _, hv⟩
  have hput : Lib.BuilderAt 45 5 B b (.pointer (some ⟨b, 0, none⟩)) (bs ++ Lib.strCells s) (w2.setCell ⟨b, 1, none⟩ (.slice ao n' cap)) := Lib.BuilderAt.put (T := 45) (e := 5) hB hb2 (bs' := bs ++ Lib.strCells s) (by rw [List.length_append, Lib.strCells_length, hls, hms, hbc]; exact hown') (by decide)
  have hbl : Below B w (w2.setCell ⟨b, 1, none⟩ (.slice ao n' cap)) := (hb1.grown hgrow (by have := hb1.size; omega) (fun k hk => (hown.lt k hk).1)).setCell (p := ⟨b, 1, none⟩) hB _
  have HFr := hid (show Fr (SB w) w (w2.setCell ⟨b, 1, none⟩ (.slice ao n' cap)) from ((hf1.mono (fun i _ (hi : i = b) => hi ▸ Hsb.out)).grown hgrow hSv).setCell (p := ⟨b, 1, none⟩) (.inl Hsb.out) _)
  have HP := hid hput
  have HB := hid hbl
  have Hbc := hid hbc
  clear hput hbl hown hown' hgrow hbk hbc hSv hf1
  go_wp2_with fail
  go_ret2
  refine ⟨⟨_, rfl⟩, ?_, HB.out, HFr.out⟩
  unfold BldAt
  rw [← Hbc.out]
  exact .inr HP.out
theorem bld_new (w : World) : BldAt w.heap.size w.heap.size [] (w.alloc (.cells #[.pointer none, .slice none 0 0] 45)) :=
  Or.inl ⟨Nat.le_refl _, .slice none 0 0, heap_alloc_new w _, World.ownsRow_nil _ _ _ _, by simp [Value.ownBlock]⟩
theorem IsB.belowS {T e : TypeId} {B b : Nat} {bs : List Value} {w w' : World} (h : Lib.IsBuilder T e B b bs w) (hb : Below w.heap.size w w') : Lib.IsBuilder T e B b bs w' := by
  have hk : ∀ p, Lib.BuilderAt T e B b p bs w → Lib.BuilderAt T e B b p bs w' := fun p hp => by
    have hlt := hp.lt
    obtain ⟨h1, v, h2, h3, h4⟩ := hp
    exact ⟨h1, v, (hb.block b hlt).trans h2, h3.kept (row := none) ⟨hb.os, hb.tape, hb.output, hb.size, fun k hk' _ => hb.block k hk'⟩ (Classical.em _), h4⟩
  exact h.imp (hk _) (hk _)
theorem BldAt.belowS {B b : Nat} {l : Tx} {w w' : World} (h : BldAt B b l w) (hb : Below w.heap.size w w') : BldAt B b l w' := IsB.belowS h hb
theorem bld_text (B b : Nat) (l : Tx) (w : World) (h : BldAt B b l w) (hBw : B ≤ w.heap.size) :
    Calls Tryz.prog 15 #[.pointer (some ⟨b, 0, none⟩)] w fun e w' => e = .returned (.string (mkB l)) ∧ Below B w w' := Tryz.Builder_String_any B b l w h hBw

/-! ### strings.TrimSuffix at a newline -/
theorem trim_cut (l : Tx) : Lib.trimSuffix l [10] = cutN l := by
  unfold Lib.trimSuffix cutN Lib.hasSuffix
  by_cases h : l.getLast? = some 10
  · obtain ⟨q, rfl⟩ : ∃ q, l = q ++ [10] := by
      rcases List.eq_nil_or_concat l with rfl | ⟨q, b, rfl⟩
      · cases h
      · rw [List.concat_eq_append] at h ⊢
        rw [List.getLast?_concat] at h
        injection h with h
        exact ⟨q, by rw [h]⟩
    rw [if_pos h, if_pos (by simp [List.isSuffixOf_iff_suffix])]
    simp
  · rw [if_neg h, if_neg]
    intro hs
    obtain ⟨q, hq⟩ := List.isSuffixOf_iff_suffix.1 hs
    exact h (by rw [← hq]; exact List.getLast?_concat)
theorem trim_any (l : Tx) (hl : l.length ≤ 3001) (w : World) :
    Calls Tryz.prog 14 #[.string (mkB l), .string ⟨#[10]⟩] w fun e w' => e = .returned (.string (mkB (cutN l))) ∧ w' = w := by
  have := Tryz.strings_TrimSuffix (mkB l) ⟨#[10]⟩ w (by rw [mkB_size]; omega)
  rw [mkB_list, show (⟨#[10]⟩ : ByteArray).data.toList = [10] from rfl, trim_cut] at this
  exact this

/-! ### api.Errno's Error -/
set_option maxHeartbeats 2000000 in
theorem errname_any (n : Int) (h0 : 0 ≤ n) (h8 : n ≤ 8) (w : World) :
    Calls Tryz.prog 30 #[.int .i64 n] w fun e w' => e = .returned (.string (mkB (nameE n))) ∧ w' = w := by
  rcases (show n = 0 ∨ n = 1 ∨ n = 2 ∨ n = 3 ∨ n = 4 ∨ n = 5 ∨ n = 6 ∨ n = 7 ∨ n = 8 by omega) with rfl | rfl | rfl | rfl | rfl | rfl | rfl | rfl | rfl
  all_goals
    clear h0 h8
    go_enter Tryz.func30, Tryz.ntmps30
    go_wp2_with fail
    go_ret
    exact ⟨rfl, rfl⟩
end Go.Proofs.YtemhdfodghfkfaaGreatDoor
