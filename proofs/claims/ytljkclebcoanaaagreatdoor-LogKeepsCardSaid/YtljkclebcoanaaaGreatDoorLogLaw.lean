/-
  PLAIN: what a record of a log is, as a list of bytes; its words; a newline stands at its end alone. CONDITIONS: none. No program in this text.
-/
import Derived.Lib.Fields
import Derived.Lib.ItoaNum
import Derived.Lib.ItoaMem
import Derived.Lib.Atoi
import Derived.Lib.Join
namespace Go.Proofs.YtljkclebcoanaaaGreatDoor
open Go

/-- a text as bytes -/
def mkB (l : List UInt8) : ByteArray := ⟨l.toArray⟩
theorem mkB_of (s : ByteArray) : mkB s.data.toList = s := rfl
theorem mkB_list (l : List UInt8) : (mkB l).data.toList = l := rfl
theorem mkB_size (l : List UInt8) : (mkB l).size = l.length := by show (l.toArray).size = _; simp
/-- a digit -/
def dig (b : UInt8) : Prop := 48 ≤ b.toNat ∧ b.toNat ≤ 57
theorem dig_of (u : Nat) (h : u < 10) : dig (UInt8.ofNat (48 + u)) := by
  unfold dig
  rw [UInt8.toNat_ofNat']
  omega
theorem digits_dig (u : Nat) : ∀ b ∈ Lib.decDigits u, dig b := by
  induction u using Nat.strongRecOn with
  | _ u ih =>
    intro b hb
    rw [Lib.decDigits] at hb
    split at hb
    · rename_i h
      rw [List.mem_singleton.1 hb]
      exact dig_of u h
    · rename_i h
      rcases List.mem_append.1 hb with hb | hb
      · exact ih (u / 10) (by omega) b hb
      · rw [List.mem_singleton.1 hb]
        exact dig_of _ (Nat.mod_lt _ (by omega))
theorem digits_ne (u : Nat) : Lib.decDigits u ≠ [] := by
  rw [Lib.decDigits]
  split
  · simp
  · simp
theorem digits_len (u : Nat) (h : u < 1000) : (Lib.decDigits u).length ≤ 3 := by
  rw [Lib.decDigits]
  split
  · simp
  · rw [List.length_append, Lib.decDigits]
    split
    · simp
    · rw [List.length_append, Lib.decDigits]
      split
      · simp
      · omega
theorem decFrom_app (l r : List UInt8) (a n : Nat) (h : Lib.decFrom a l = some n) : Lib.decFrom a (l ++ r) = Lib.decFrom n r := by
  induction l generalizing a with
  | nil =>
    simp only [Lib.decFrom, Option.some.injEq] at h
    rw [List.nil_append, h]
  | cons b l ih =>
    simp only [Lib.decFrom, List.cons_append] at h ⊢
    cases hd : Lib.digitVal b with
    | none => rw [hd] at h; cases h
    | some d =>
      rw [hd] at h
      exact ih _ h
theorem digitVal_of (u : Nat) (h : u < 10) : Lib.digitVal (UInt8.ofNat (48 + u)) = some u := by
  unfold Lib.digitVal
  rw [UInt8.toNat_ofNat', show (48 + u) % 2 ^ 8 = 48 + u by omega, if_pos (by omega)]
  congr 1
  omega
theorem decFrom_digits (u : Nat) : Lib.decFrom 0 (Lib.decDigits u) = some u := by
  induction u using Nat.strongRecOn with
  | _ u ih =>
    rw [Lib.decDigits]
    split
    · rename_i h
      simp only [Lib.decFrom, digitVal_of u h]
      congr 1
      omega
    · rename_i h
      rw [decFrom_app _ _ _ _ (ih (u / 10) (by omega))]
      simp only [Lib.decFrom, digitVal_of (u % 10) (Nat.mod_lt _ (by omega))]
      congr 1
      omega
theorem itoa_dig (u : Nat) : ∀ b ∈ Lib.itoa (u : Int), dig b := by
  rw [Lib.itoa_nonneg]; exact digits_dig u
theorem itoa_ne (u : Nat) : Lib.itoa (u : Int) ≠ [] := by
  rw [Lib.itoa_nonneg]; exact digits_ne u
theorem itoa_len (u : Nat) (h : u < 1000) : (Lib.itoa (u : Int)).length ≤ 3 := by
  rw [Lib.itoa_nonneg]; exact digits_len u h
theorem atoi_itoa (u : Nat) : Lib.atoi (Lib.itoa (u : Int)) = some (u : Int) := by
  have hd := itoa_dig u
  have hn := itoa_ne u
  have hv : Lib.decFrom 0 (Lib.itoa (u : Int)) = some u := by rw [Lib.itoa_nonneg]; exact decFrom_digits u
  cases hl : Lib.itoa (u : Int) with
  | nil => exact absurd hl hn
  | cons b r =>
    rw [hl] at hv hd
    have hb := hd b (by simp)
    unfold dig at hb
    have h1 : (b == 45) = false := by
      apply beq_eq_false_iff_ne.2
      rintro rfl
      exact absurd hb.1 (by decide)
    have h2 : (b == 43) = false := by
      apply beq_eq_false_iff_ne.2
      rintro rfl
      exact absurd hb.1 (by decide)
    simp only [Lib.atoi, h1, h2, Lib.decNat, List.isEmpty_cons, hv]
    rfl

/-- the words of a record -/
def recW (k : Nat) (g : Bool) (t : ByteArray) : List (List UInt8) := Lib.itoa (k : Int) :: ((if g then [[45]] else []) ++ t.data.toList.map fun b => Lib.itoa (b.toNat : Int))
/-- a record -/
def recL (k : Nat) (g : Bool) (t : ByteArray) : List UInt8 := Lib.join (recW k g t) [32] ++ [10]
/-- a word: not empty; digits or a minus -/
def wordy (w : List UInt8) : Prop := w ≠ [] ∧ ∀ b ∈ w, dig b ∨ b = 45
theorem recW_wordy (k : Nat) (g : Bool) (t : ByteArray) : ∀ w ∈ recW k g t, wordy w := by
  intro w hw
  unfold recW at hw
  rcases List.mem_cons.1 hw with rfl | hw
  · exact ⟨itoa_ne k, fun b hb => .inl (itoa_dig k b hb)⟩
  · rcases List.mem_append.1 hw with hw | hw
    · cases g with
      | false => cases hw
      | true =>
        rw [List.mem_singleton.1 hw]
        exact ⟨by simp, fun b hb => .inr (List.mem_singleton.1 hb)⟩
    · obtain ⟨b, _, rfl⟩ := List.mem_map.1 hw
      exact ⟨itoa_ne _, fun c hc => .inl (itoa_dig _ c hc)⟩
theorem isSp_wordy {b : UInt8} (h : dig b ∨ b = 45) : Lib.isSp b = false := by
  have hb : 45 ≤ b.toNat := by
    rcases h with h | rfl
    · unfold dig at h; omega
    · decide
  have ne : ∀ n : Nat, n < 45 → (b == UInt8.ofNat n) = false := fun n hn => by
    apply beq_eq_false_iff_ne.2
    rintro rfl
    rw [UInt8.toNat_ofNat'] at hb
    omega
  unfold Lib.isSp
  have h9 := ne 9 (by omega)
  have h10 := ne 10 (by omega)
  have h11 := ne 11 (by omega)
  have h12 := ne 12 (by omega)
  have h13 := ne 13 (by omega)
  have h32 := ne 32 (by omega)
  change (b == 9) = false at h9
  change (b == 10) = false at h10
  change (b == 11) = false at h11
  change (b == 12) = false at h12
  change (b == 13) = false at h13
  change (b == 32) = false at h32
  rw [h9, h10, h11, h12, h13, h32]
  rfl
theorem fieldsGo_word (w rest : List UInt8) (hw : ∀ b ∈ w, dig b ∨ b = 45) (cur : List UInt8) : Lib.fieldsGo cur (w ++ rest) = Lib.fieldsGo (cur ++ w) rest := by
  induction w generalizing cur with
  | nil => rw [List.append_nil, List.nil_append]
  | cons b w ih =>
    rw [List.cons_append, Lib.fieldsGo_more _ _ _ (isSp_wordy (hw b (by simp))), ih (fun c hc => hw c (by simp [hc])), List.append_assoc]
    rfl
theorem fieldsGo_tail (r : List (List UInt8)) (hr : ∀ w ∈ r, wordy w) (x : List UInt8) (hx : x ≠ []) : Lib.fieldsGo x (Lib.joinTail [32] r ++ [10]) = x :: r := by
  induction r generalizing x with
  | nil =>
    change Lib.fieldsGo x [10] = [x]
    rw [Lib.fieldsGo_end _ _ _ (by decide) hx]
    rfl
  | cons y r ih =>
    have e : Lib.joinTail [32] (y :: r) ++ [10] = 32 :: (y ++ (Lib.joinTail [32] r ++ [10])) := by
      simp [Lib.joinTail]
    rw [e, Lib.fieldsGo_end _ _ _ (by decide) hx, fieldsGo_word _ _ (hr y (by simp)).2, List.nil_append, ih (fun w hw => hr w (by simp [hw])) y (hr y (by simp)).1]
theorem fields_join (x : List UInt8) (r : List (List UInt8)) (h : ∀ w ∈ x :: r, wordy w) : Lib.fields (Lib.join (x :: r) [32] ++ [10]) = x :: r := by
  unfold Lib.fields
  rw [Lib.join_cons, List.append_assoc, fieldsGo_word _ _ (h x (by simp)).2, List.nil_append, fieldsGo_tail r (fun w hw => h w (by simp [hw])) x (h x (by simp)).1]
theorem fields_rec (k : Nat) (g : Bool) (t : ByteArray) : Lib.fields (recL k g t) = recW k g t := fields_join _ _ (recW_wordy k g t)

/-- the bytes of a joined row of words -/
theorem joinTail_mem (r : List (List UInt8)) (hr : ∀ w ∈ r, wordy w) : ∀ b ∈ Lib.joinTail [32] r, dig b ∨ b = 45 ∨ b = 32 := by
  intro b hb
  unfold Lib.joinTail at hb
  obtain ⟨l, hl, hb⟩ := List.mem_flatten.1 hb
  obtain ⟨w, hw, rfl⟩ := List.mem_map.1 hl
  rcases List.mem_append.1 hb with hb | hb
  · exact .inr (.inr (List.mem_singleton.1 hb))
  · rcases (hr w hw).2 b hb with h | h
    · exact .inl h
    · exact .inr (.inl h)
/-- a record without its end -/
def recB (k : Nat) (g : Bool) (t : ByteArray) : List UInt8 := Lib.join (recW k g t) [32]
theorem recL_eq (k : Nat) (g : Bool) (t : ByteArray) : recL k g t = recB k g t ++ [10] := rfl
theorem recB_mem (k : Nat) (g : Bool) (t : ByteArray) : ∀ b ∈ recB k g t, dig b ∨ b = 45 ∨ b = 32 := by
  intro b hb
  have hW := recW_wordy k g t
  unfold recB at hb
  cases hr : recW k g t with
  | nil => rw [hr] at hb; cases hb
  | cons x r =>
    rw [hr] at hb hW
    rw [Lib.join_cons] at hb
    rcases List.mem_append.1 hb with hb | hb
    · rcases (hW x (by simp)).2 b hb with h | h
      · exact .inl h
      · exact .inr (.inl h)
    · exact joinTail_mem r (fun w hw => hW w (by simp [hw])) b hb
theorem recB_no (k : Nat) (g : Bool) (t : ByteArray) : (10 : UInt8) ∉ recB k g t := by
  intro h
  rcases recB_mem k g t 10 h with h | h | h
  · exact absurd h.1 (by decide)
  · exact absurd h (by decide)
  · exact absurd h (by decide)
theorem recB_ne (k : Nat) (g : Bool) (t : ByteArray) : recB k g t ≠ [] := by
  unfold recB recW
  rw [Lib.join_cons]
  intro h
  exact itoa_ne k (List.append_eq_nil_iff.1 h).1
theorem recL_ascii (k : Nat) (g : Bool) (t : ByteArray) : ∀ b ∈ recL k g t, b.toNat < 128 := by
  intro b hb
  rw [recL_eq] at hb
  rcases List.mem_append.1 hb with hb | hb
  · rcases recB_mem k g t b hb with h | rfl | rfl
    · have := h.2; omega
    · decide
    · decide
  · rw [List.mem_singleton.1 hb]; decide
theorem recL_two (k : Nat) (g : Bool) (t : ByteArray) : 2 ≤ (recL k g t).length := by
  rw [recL_eq, List.length_append]
  have := List.length_pos_iff.2 (recB_ne k g t)
  simp only [List.length_singleton]
  omega
theorem joinTail_len (r : List (List UInt8)) (h : ∀ w ∈ r, w.length ≤ 3) : (Lib.joinTail [32] r).length ≤ 4 * r.length := by
  induction r with
  | nil => simp [Lib.joinTail]
  | cons y r ih =>
    have h1 := h y (by simp)
    have h2 := ih (fun w hw => h w (by simp [hw]))
    have e : Lib.joinTail [32] (y :: r) = 32 :: (y ++ Lib.joinTail [32] r) := by simp [Lib.joinTail]
    rw [e, List.length_cons, List.length_append, List.length_cons]
    omega
theorem recB_len (k : Nat) (g : Bool) (t : ByteArray) (hk : k < 1000) : (recB k g t).length ≤ 7 + 4 * t.size := by
  unfold recB recW
  rw [Lib.join_cons, List.length_append]
  have h1 := itoa_len k hk
  have h2 := joinTail_len ((if g then [[45]] else []) ++ t.data.toList.map fun b : UInt8 => Lib.itoa (b.toNat : Int)) (fun w hw => by
    rcases List.mem_append.1 hw with hw | hw
    · cases g with
      | false => cases hw
      | true => rw [List.mem_singleton.1 hw]; simp
    · obtain ⟨b, _, rfl⟩ := List.mem_map.1 hw
      exact itoa_len _ (by have := b.toNat_lt; omega))
  have h3 : ((if g then [[45]] else []) ++ t.data.toList.map fun b : UInt8 => Lib.itoa (b.toNat : Int)).length ≤ 1 + t.size := by
    rw [List.length_append, List.length_map]
    have : t.data.toList.length = t.size := rfl
    split
    · simp only [List.length_singleton]; omega
    · simp only [List.length_nil]; omega
  omega
end Go.Proofs.YtljkclebcoanaaaGreatDoor
