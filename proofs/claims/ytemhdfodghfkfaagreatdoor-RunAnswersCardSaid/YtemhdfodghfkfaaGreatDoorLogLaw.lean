/-
  PLAIN: what a record of a log is, as a list of bytes; its words; a newline stands at its end alone. CONDITIONS: none. No program in this text.
  PLAIN: a log as a value: the deeds that its store has, its bytes, how many are safe, how many steps are left, whether it has stopped; what is whole among its bytes. CONDITIONS: none. No program in this text.
  PLAIN: texts as lists of bytes, cut at a byte; numbers of at most four digits, without a needless zero. CONDITIONS: none. No program in this text.
-/
import Derived.Lib.Fields
import Derived.Lib.ItoaNum
import Derived.Lib.ItoaMem
import Derived.Lib.Atoi
import Derived.Lib.Join
import Derived.Test.YtemhdfodghfkfaaGreatDoorStore2
import Derived.Lib.LastIndexByte
import Derived.Lib.SplitLaws
namespace Go.Proofs.YtemhdfodghfkfaaGreatDoor
open Go

/-- a text as bytes -/
def mkB (l : List UInt8) : ByteArray := ⟨l.toArray⟩
theorem mkB_of (s : ByteArray) : mkB s.data.toList = s := rfl
theorem mkB_list (l : List UInt8) : (mkB l).data.toList = l := rfl
theorem mkB_size (l : List UInt8) : (mkB l).size = l.length := by show (l.toArray).size = _; simp
/-- a digit -/
def dig (b : UInt8) : Prop := 48 ≤ b.toNat ∧ b.toNat ≤ 57
theorem dig_of (u : Nat) (h : u < 10) : dig (UInt8.ofNat (48 + u)) := by
  unfold dig
  rw [UInt8.toNat_ofNat']
  omega
theorem digits_dig (u : Nat) : ∀ b ∈ Lib.decDigits u, dig b := by
  induction u using Nat.strongRecOn with
  | _ u ih =>
    intro b hb
    rw [Lib.decDigits] at hb
    split at hb
    · rename_i h
      rw [List.mem_singleton.1 hb]
      exact dig_of u h
    · rename_i h
      rcases List.mem_append.1 hb with hb | hb
      · exact ih (u / 10) (by omega) b hb
      · rw [List.mem_singleton.1 hb]
        exact dig_of _ (Nat.mod_lt _ (by omega))
theorem digits_ne (u : Nat) : Lib.decDigits u ≠ [] := by
  rw [Lib.decDigits]
  split
  · simp
  · simp
theorem digits_len (u : Nat) (h : u < 1000) : (Lib.decDigits u).length ≤ 3 := by
  rw [Lib.decDigits]
  split
  · simp
  · rw [List.length_append, Lib.decDigits]
    split
    · simp
    · rw [List.length_append, Lib.decDigits]
      split
      · simp
      · omega
theorem decFrom_app (l r : List UInt8) (a n : Nat) (h : Lib.decFrom a l = some n) : Lib.decFrom a (l ++ r) = Lib.decFrom n r := by
  induction l generalizing a with
  | nil =>
    simp only [Lib.decFrom, Option.some.injEq] at h
    rw [List.nil_append, h]
  | cons b l ih =>
    simp only [Lib.decFrom, List.cons_append] at h ⊢
    cases hd : Lib.digitVal b with
    | none => rw [hd] at h; cases h
    | some d =>
      rw [hd] at h
      exact ih _ h
theorem digitVal_of (u : Nat) (h : u < 10) : Lib.digitVal (UInt8.ofNat (48 + u)) = some u := by
  unfold Lib.digitVal
  rw [UInt8.toNat_ofNat', show (48 + u) % 2 ^ 8 = 48 + u by omega, if_pos (by omega)]
  congr 1
  omega
theorem decFrom_digits (u : Nat) : Lib.decFrom 0 (Lib.decDigits u) = some u := by
  induction u using Nat.strongRecOn with
  | _ u ih =>
    rw [Lib.decDigits]
    split
    · rename_i h
      simp only [Lib.decFrom, digitVal_of u h]
      congr 1
      omega
    · rename_i h
      rw [decFrom_app _ _ _ _ (ih (u / 10) (by omega))]
      simp only [Lib.decFrom, digitVal_of (u % 10) (Nat.mod_lt _ (by omega))]
      congr 1
      omega
theorem itoa_dig (u : Nat) : ∀ b ∈ Lib.itoa (u : Int), dig b := by
  rw [Lib.itoa_nonneg]; exact digits_dig u
theorem itoa_ne (u : Nat) : Lib.itoa (u : Int) ≠ [] := by
  rw [Lib.itoa_nonneg]; exact digits_ne u
theorem itoa_len (u : Nat) (h : u < 1000) : (Lib.itoa (u : Int)).length ≤ 3 := by
  rw [Lib.itoa_nonneg]; exact digits_len u h
theorem atoi_itoa (u : Nat) : Lib.atoi (Lib.itoa (u : Int)) = some (u : Int) := by
  have hd := itoa_dig u
  have hn := itoa_ne u
  have hv : Lib.decFrom 0 (Lib.itoa (u : Int)) = some u := by rw [Lib.itoa_nonneg]; exact decFrom_digits u
  cases hl : Lib.itoa (u : Int) with
  | nil => exact absurd hl hn
  | cons b r =>
    rw [hl] at hv hd
    have hb := hd b (by simp)
    unfold dig at hb
    have h1 : (b == 45) = false := by
      apply beq_eq_false_iff_ne.2
      rintro rfl
      exact absurd hb.1 (by decide)
    have h2 : (b == 43) = false := by
      apply beq_eq_false_iff_ne.2
      rintro rfl
      exact absurd hb.1 (by decide)
    simp only [Lib.atoi, h1, h2, Lib.decNat, List.isEmpty_cons, hv]
    rfl

/-- the words of a record -/
def recW (k : Nat) (g : Bool) (t : ByteArray) : List (List UInt8) := Lib.itoa (k : Int) :: ((if g then [[45]] else []) ++ t.data.toList.map fun b => Lib.itoa (b.toNat : Int))
/-- a record -/
def recL (k : Nat) (g : Bool) (t : ByteArray) : List UInt8 := Lib.join (recW k g t) [32] ++ [10]
/-- a word: not empty; digits or a minus -/
def wordy (w : List UInt8) : Prop := w ≠ [] ∧ ∀ b ∈ w, dig b ∨ b = 45
theorem recW_wordy (k : Nat) (g : Bool) (t : ByteArray) : ∀ w ∈ recW k g t, wordy w := by
  intro w hw
  unfold recW at hw
  rcases List.mem_cons.1 hw with rfl | hw
  · exact ⟨itoa_ne k, fun b hb => .inl (itoa_dig k b hb)⟩
  · rcases List.mem_append.1 hw with hw | hw
    · cases g with
      | false => cases hw
      | true =>
        rw [List.mem_singleton.1 hw]
        exact ⟨by simp, fun b hb => .inr (List.mem_singleton.1 hb)⟩
    · obtain ⟨b, _, rfl⟩ := List.mem_map.1 hw
      exact ⟨itoa_ne _, fun c hc => .inl (itoa_dig _ c hc)⟩
theorem isSp_wordy {b : UInt8} (h : dig b ∨ b = 45) : Lib.isSp b = false := by
  have hb : 45 ≤ b.toNat := by
    rcases h with h | rfl
    · unfold dig at h; omega
    · decide
  have ne : ∀ n : Nat, n < 45 → (b == UInt8.ofNat n) = false := fun n hn => by
    apply beq_eq_false_iff_ne.2
    rintro rfl
    rw [UInt8.toNat_ofNat'] at hb
    omega
  unfold Lib.isSp
  have h9 := ne 9 (by omega)
  have h10 := ne 10 (by omega)
  have h11 := ne 11 (by omega)
  have h12 := ne 12 (by omega)
  have h13 := ne 13 (by omega)
  have h32 := ne 32 (by omega)
  change (b == 9) = false at h9
  change (b == 10) = false at h10
  change (b == 11) = false at h11
  change (b == 12) = false at h12
  change (b == 13) = false at h13
  change (b == 32) = false at h32
  rw [h9, h10, h11, h12, h13, h32]
  rfl
theorem fieldsGo_word (w rest : List UInt8) (hw : ∀ b ∈ w, dig b ∨ b = 45) (cur : List UInt8) : Lib.fieldsGo cur (w ++ rest) = Lib.fieldsGo (cur ++ w) rest := by
  induction w generalizing cur with
  | nil => rw [List.append_nil, List.nil_append]
  | cons b w ih =>
    rw [List.cons_append, Lib.fieldsGo_more _ _ _ (isSp_wordy (hw b (by simp))), ih (fun c hc => hw c (by simp [hc])), List.append_assoc]
    rfl
theorem fieldsGo_tail (r : List (List UInt8)) (hr : ∀ w ∈ r, wordy w) (x : List UInt8) (hx : x ≠ []) : Lib.fieldsGo x (Lib.joinTail [32] r ++ [10]) = x :: r := by
  induction r generalizing x with
  | nil =>
    change Lib.fieldsGo x [10] = [x]
    rw [Lib.fieldsGo_end _ _ _ (by decide) hx]
    rfl
  | cons y r ih =>
    have e : Lib.joinTail [32] (y :: r) ++ [10] = 32 :: (y ++ (Lib.joinTail [32] r ++ [10])) := by
      simp [Lib.joinTail]
    rw [e, Lib.fieldsGo_end _ _ _ (by decide) hx, fieldsGo_word _ _ (hr y (by simp)).2, List.nil_append, ih (fun w hw => hr w (by simp [hw])) y (hr y (by simp)).1]
theorem fields_join (x : List UInt8) (r : List (List UInt8)) (h : ∀ w ∈ x :: r, wordy w) : Lib.fields (Lib.join (x :: r) [32] ++ [10]) = x :: r := by
  unfold Lib.fields
  rw [Lib.join_cons, List.append_assoc, fieldsGo_word _ _ (h x (by simp)).2, List.nil_append, fieldsGo_tail r (fun w hw => h w (by simp [hw])) x (h x (by simp)).1]
theorem fields_rec (k : Nat) (g : Bool) (t : ByteArray) : Lib.fields (recL k g t) = recW k g t := fields_join _ _ (recW_wordy k g t)

/-- the bytes of a joined row of words -/
theorem joinTail_mem (r : List (List UInt8)) (hr : ∀ w ∈ r, wordy w) : ∀ b ∈ Lib.joinTail [32] r, dig b ∨ b = 45 ∨ b = 32 := by
  intro b hb
  unfold Lib.joinTail at hb
  obtain ⟨l, hl, hb⟩ := List.mem_flatten.1 hb
  obtain ⟨w, hw, rfl⟩ := List.mem_map.1 hl
  rcases List.mem_append.1 hb with hb | hb
  · exact .inr (.inr (List.mem_singleton.1 hb))
  · rcases (hr w hw).2 b hb with h | h
    · exact .inl h
    · exact .inr (.inl h)
/-- a record without its end -/
def recB (k : Nat) (g : Bool) (t : ByteArray) : List UInt8 := Lib.join (recW k g t) [32]
theorem recL_eq (k : Nat) (g : Bool) (t : ByteArray) : recL k g t = recB k g t ++ [10] := rfl
theorem recB_mem (k : Nat) (g : Bool) (t : ByteArray) : ∀ b ∈ recB k g t, dig b ∨ b = 45 ∨ b = 32 := by
  intro b hb
  have hW := recW_wordy k g t
  unfold recB at hb
  cases hr : recW k g t with
  | nil => rw [hr] at hb; cases hb
  | cons x r =>
    rw [hr] at hb hW
    rw [Lib.join_cons] at hb
    rcases List.mem_append.1 hb with hb | hb
    · rcases (hW x (by simp)).2 b hb with h | h
      · exact .inl h
      · exact .inr (.inl h)
    · exact joinTail_mem r (fun w hw => hW w (by simp [hw])) b hb
theorem recB_no (k : Nat) (g : Bool) (t : ByteArray) : (10 : UInt8) ∉ recB k g t := by
  intro h
  rcases recB_mem k g t 10 h with h | h | h
  · exact absurd h.1 (by decide)
  · exact absurd h (by decide)
  · exact absurd h (by decide)
theorem recB_ne (k : Nat) (g : Bool) (t : ByteArray) : recB k g t ≠ [] := by
  unfold recB recW
  rw [Lib.join_cons]
  intro h
  exact itoa_ne k (List.append_eq_nil_iff.1 h).1
theorem recL_ascii (k : Nat) (g : Bool) (t : ByteArray) : ∀ b ∈ recL k g t, b.toNat < 128 := by
  intro b hb
  rw [recL_eq] at hb
  rcases List.mem_append.1 hb with hb | hb
  · rcases recB_mem k g t b hb with h | rfl | rfl
    · have := h.2; omega
    · decide
    · decide
  · rw [List.mem_singleton.1 hb]; decide
theorem recL_two (k : Nat) (g : Bool) (t : ByteArray) : 2 ≤ (recL k g t).length := by
  rw [recL_eq, List.length_append]
  have := List.length_pos_iff.2 (recB_ne k g t)
  simp only [List.length_singleton]
  omega
theorem joinTail_len (r : List (List UInt8)) (h : ∀ w ∈ r, w.length ≤ 3) : (Lib.joinTail [32] r).length ≤ 4 * r.length := by
  induction r with
  | nil => simp [Lib.joinTail]
  | cons y r ih =>
    have h1 := h y (by simp)
    have h2 := ih (fun w hw => h w (by simp [hw]))
    have e : Lib.joinTail [32] (y :: r) = 32 :: (y ++ Lib.joinTail [32] r) := by simp [Lib.joinTail]
    rw [e, List.length_cons, List.length_append, List.length_cons]
    omega
theorem recB_len (k : Nat) (g : Bool) (t : ByteArray) (hk : k < 1000) : (recB k g t).length ≤ 7 + 4 * t.size := by
  unfold recB recW
  rw [Lib.join_cons, List.length_append]
  have h1 := itoa_len k hk
  have h2 := joinTail_len ((if g then [[45]] else []) ++ t.data.toList.map fun b : UInt8 => Lib.itoa (b.toNat : Int)) (fun w hw => by
    rcases List.mem_append.1 hw with hw | hw
    · cases g with
      | false => cases hw
      | true => rw [List.mem_singleton.1 hw]; simp
    · obtain ⟨b, _, rfl⟩ := List.mem_map.1 hw
      exact itoa_len _ (by have := b.toNat_lt; omega))
  have h3 : ((if g then [[45]] else []) ++ t.data.toList.map fun b : UInt8 => Lib.itoa (b.toNat : Int)).length ≤ 1 + t.size := by
    rw [List.length_append, List.length_map]
    have : t.data.toList.length = t.size := rfl
    split
    · simp only [List.length_singleton]; omega
    · simp only [List.length_nil]; omega
  omega
end Go.Proofs.YtemhdfodghfkfaaGreatDoor
namespace Go.Proofs.YtemhdfodghfkfaaGreatDoor
open Go Go.RowKit

/-- a record of a deed -/
def recE (e : E) : List UInt8 := recL e.key.toNat e.gone e.text
/-- the records of deeds -/
def bytesL (D : List E) : List UInt8 := D.flatMap recE
theorem bytesL_nil : bytesL [] = [] := rfl
theorem bytesL_cons (e : E) (D : List E) : bytesL (e :: D) = recE e ++ bytesL D := List.flatMap_cons
theorem bytesL_app (A B : List E) : bytesL (A ++ B) = bytesL A ++ bytesL B := List.flatMap_append
theorem bytesL_snoc (D : List E) (e : E) : bytesL (D ++ [e]) = bytesL D ++ recE e := by
  rw [bytesL_app, bytesL_cons, bytesL_nil, List.append_nil]
theorem recE_two (e : E) : 2 ≤ (recE e).length := recL_two _ _ _
/-- a deed, as a log writes it -/
structure DeedE (e : E) : Prop where
  key : 0 ≤ e.key ∧ e.key < 8
  text : e.text.size ≤ 12
  rest : e.ver = 0 ∧ e.asof = 0
  gone : e.gone = true → e.text = ⟨#[]⟩
/-- what a deed does to deeds -/
def redoE (D : List E) (e : E) : (Int × Int) × List E := if e.gone = true then rdel D e.key else rput D e.key e.text
/-- deeds that can be done again, one after the other -/
def ValD (D : List E) : Prop := ∀ A e B, D = A ++ e :: B → DeedE e ∧ redoE A e = (((A.length : Int) + 1, 0), A ++ [e])
theorem ValD.nil : ValD [] := fun A e B h => by
  have := congrArg List.length h
  simp at this
theorem ValD.pre {A B : List E} (h : ValD (A ++ B)) : ValD A := fun A' e B' he => h A' e (B' ++ B) (by rw [he]; simp)
theorem ValD.take {D : List E} (h : ValD D) (i : Nat) : ValD (D.take i) := by
  have e := (List.take_append_drop i D).symm
  rw [e] at h
  exact h.pre
theorem ValD.snoc {D : List E} {e : E} (h : ValD D) (he : DeedE e) (hr : redoE D e = (((D.length : Int) + 1, 0), D ++ [e])) : ValD (D ++ [e]) := fun A x B hx => by
  rcases List.eq_nil_or_concat B with rfl | ⟨B', b, rfl⟩
  · obtain ⟨h1, h2⟩ := List.append_inj' hx rfl
    cases h2
    subst h1
    exact ⟨he, hr⟩
  · rw [show A ++ x :: B'.concat b = (A ++ x :: B') ++ [b] by simp] at hx
    obtain ⟨h1, h2⟩ := List.append_inj' hx rfl
    exact h A x B' h1
theorem rdone_ok {D : List E} {e : E} (h : (rdone D e).1.2 = 0) : D.length < 1000 ∧ rdone D e = (((D.length : Int) + 1, 0), D ++ [e]) ∨ D.length > 1000 ∧ rdone D e = (((D.length : Int) + 1, 0), D ++ [e]) := by
  unfold rdone at h ⊢
  split
  · rename_i hn
    rw [if_pos hn] at h
    simp at h
  · rename_i hn
    rcases Nat.lt_or_ge D.length 1000 with h' | h'
    · exact .inl ⟨h', rfl⟩
    · exact .inr ⟨by omega, rfl⟩
theorem rdone_eq {D : List E} {e : E} (h : (rdone D e).1.2 = 0) : rdone D e = (((D.length : Int) + 1, 0), D ++ [e]) := by
  rcases rdone_ok h with h | h
  · exact h.2
  · exact h.2
theorem rdone_len {D : List E} {e : E} (h : (rdone D e).1.2 = 0) : D.length ≠ 1000 := by
  intro hn
  unfold rdone at h
  rw [if_pos hn] at h
  simp at h
/-- a text put without a fault -/
theorem rput_ok {D : List E} {k : Int} {t : ByteArray} (h : (rput D k t).1.2 = 0) : (0 ≤ k ∧ k < 8) ∧ t.size ≤ 12 ∧ D.length ≠ 1000 ∧ rput D k t = (((D.length : Int) + 1, 0), D ++ [⟨k, 0, 0, false, t⟩]) := by
  unfold rput at h ⊢
  split at h
  · rename_i hk
    rw [if_pos hk]
    split at h
    · simp at h
    · rename_i ht
      rw [if_neg ht]
      exact ⟨keyB_true.1 hk, by omega, rdone_len h, rdone_eq h⟩
  · simp at h
theorem rdel_ok {D : List E} {k : Int} (h : (rdel D k).1.2 = 0) : (0 ≤ k ∧ k < 8) ∧ D.length ≠ 1000 ∧ rdel D k = (((D.length : Int) + 1, 0), D ++ [⟨k, 0, 0, true, ⟨#[]⟩⟩]) := by
  unfold rdel at h ⊢
  split at h
  · rename_i hk
    rw [if_pos hk]
    split at h
    · simp at h
    · rename_i ht
      rw [if_neg ht]
      exact ⟨keyB_true.1 hk, rdone_len h, rdone_eq h⟩
  · simp at h
/-- with a fault nothing is done -/
theorem rdone_bad {D : List E} {e : E} (h : (rdone D e).1.2 ≠ 0) : (rdone D e).2 = D ∧ (rdone D e).1.1 = 0 := by
  unfold rdone at h ⊢
  split
  · exact ⟨rfl, rfl⟩
  · rename_i hn
    rw [if_neg hn] at h
    exact absurd rfl h
theorem rput_bad {D : List E} {k : Int} {t : ByteArray} (h : (rput D k t).1.2 ≠ 0) : (rput D k t).2 = D ∧ (rput D k t).1.1 = 0 := by
  unfold rput at h ⊢
  split
  · rename_i hk
    rw [if_pos hk] at h
    split
    · exact ⟨rfl, rfl⟩
    · rename_i ht
      rw [if_neg ht] at h
      exact rdone_bad h
  · exact ⟨rfl, rfl⟩
theorem rdel_bad {D : List E} {k : Int} (h : (rdel D k).1.2 ≠ 0) : (rdel D k).2 = D ∧ (rdel D k).1.1 = 0 := by
  unfold rdel at h ⊢
  split
  · rename_i hk
    rw [if_pos hk] at h
    split
    · exact ⟨rfl, rfl⟩
    · rename_i ht
      rw [if_neg ht] at h
      exact rdone_bad h
  · exact ⟨rfl, rfl⟩
theorem ValD.put {D : List E} (h : ValD D) {k : Int} {t : ByteArray} (hr : (rput D k t).1.2 = 0) : ValD (rput D k t).2 := by
  obtain ⟨hk, ht, _, he⟩ := rput_ok hr
  rw [he]
  exact h.snoc ⟨hk, ht, ⟨rfl, rfl⟩, fun h => by cases h⟩ (by unfold redoE; rw [if_neg (by simp)]; exact he)
theorem ValD.del {D : List E} (h : ValD D) {k : Int} (hr : (rdel D k).1.2 = 0) : ValD (rdel D k).2 := by
  obtain ⟨hk, _, he⟩ := rdel_ok hr
  rw [he]
  exact h.snoc ⟨hk, Nat.zero_le _, ⟨rfl, rfl⟩, fun _ => rfl⟩ (by unfold redoE; rw [if_pos rfl]; exact he)

/-! ### what is whole -/
/-- how many records are whole among the first h bytes -/
def wholeN : List E → Nat → Nat
  | [], _ => 0
  | e :: D, h => if (recE e).length ≤ h then wholeN D (h - (recE e).length) + 1 else 0
theorem wholeN_le : ∀ (D : List E) (h : Nat), wholeN D h ≤ D.length
  | [], _ => Nat.le_refl _
  | e :: D, h => by
    unfold wholeN
    split
    · have := wholeN_le D (h - (recE e).length)
      rw [List.length_cons]
      omega
    · exact Nat.zero_le _
theorem wholeN_cut : ∀ (D : List E) (p : List UInt8) (h : Nat), (10 : UInt8) ∉ p → ∃ q, (bytesL D ++ p).take h = bytesL (D.take (wholeN D h)) ++ q ∧ (10 : UInt8) ∉ q
  | [], p, h, hp => ⟨p.take h, rfl, fun hm => hp (List.mem_of_mem_take hm)⟩
  | e :: D, p, h, hp => by
    unfold wholeN
    split
    · rename_i hl
      obtain ⟨q, hq, hn⟩ := wholeN_cut D p (h - (recE e).length) hp
      refine ⟨q, ?_, hn⟩
      rw [List.take_succ_cons, bytesL_cons, bytesL_cons, List.append_assoc, List.append_assoc, ← hq, List.take_append]
      rw [List.take_of_length_le hl]
    · rename_i hl
      have hlen : h ≤ (recB e.key.toNat e.gone e.text).length := by
        unfold recE at hl
        rw [recL_eq, List.length_append, List.length_singleton] at hl
        omega
      refine ⟨(recB e.key.toNat e.gone e.text).take h, ?_, fun hm => recB_no _ _ _ (List.mem_of_mem_take hm)⟩
      rw [List.take_zero, bytesL_nil, List.nil_append, bytesL_cons, List.append_assoc, List.take_append_of_le_length (by omega)]
      unfold recE
      rw [recL_eq, List.take_append_of_le_length hlen]
theorem wholeN_mark : ∀ (D : List E) (h : Nat), (bytesL (D.take (wholeN D h))).length ≤ h
  | [], _ => Nat.zero_le _
  | e :: D, h => by
    unfold wholeN
    split
    · rename_i hl
      have := wholeN_mark D (h - (recE e).length)
      rw [List.take_succ_cons, bytesL_cons, List.length_append]
      omega
    · exact Nat.zero_le _
theorem wholeN_max : ∀ (D : List E) (h i : Nat), i ≤ D.length → (bytesL (D.take i)).length ≤ h → i ≤ wholeN D h
  | [], _, i, hi, _ => hi
  | e :: D, h, 0, _, _ => Nat.zero_le _
  | e :: D, h, i + 1, hi, hm => by
    rw [List.take_succ_cons, bytesL_cons, List.length_append] at hm
    unfold wholeN
    rw [if_pos (by omega)]
    have := wholeN_max D (h - (recE e).length) i (by rw [List.length_cons] at hi; omega) (by omega)
    omega
theorem bytesL_end : ∀ (D : List E), bytesL D = [] ∨ ∃ l, bytesL D = l ++ [10]
  | [] => .inl rfl
  | e :: D => by
    rcases bytesL_end D with h | ⟨l, h⟩
    · rw [bytesL_cons, h, List.append_nil]
      exact .inr ⟨recB e.key.toNat e.gone e.text, rfl⟩
    · rw [bytesL_cons, h]
      exact .inr ⟨recE e ++ l, by simp⟩
/-- the last newline of whole records with a part behind them -/
theorem last_nl (D : List E) (q : List UInt8) (hq : (10 : UInt8) ∉ q) : Lib.lastIndexByte (mkB (bytesL D ++ q)) 10 + 1 = ((bytesL D).length : Int) := by
  have hg : ∀ j, j < (bytesL D ++ q).length → ((⟨(bytesL D ++ q).toArray⟩ : ByteArray).data[j]!) = (bytesL D ++ q).getD j 0 := fun j hj => by
    show ((bytesL D ++ q).toArray)[j]! = _
    rw [getElem!_pos _ j (by simpa using hj)]
    simp only [List.getElem_toArray]
    rw [List.getD_eq_getElem?_getD, List.getElem?_eq_getElem hj]
    rfl
  have hz : (⟨(bytesL D ++ q).toArray⟩ : ByteArray).size = (bytesL D ++ q).length := by show ((bytesL D ++ q).toArray).size = _; simp
  have hl : (bytesL D ++ q).length = (bytesL D).length + q.length := List.length_append
  have hin : ∀ j, (bytesL D).length ≤ j → j < (bytesL D ++ q).length → (bytesL D ++ q).getD j 0 ≠ 10 := fun j h1 h2 h => by
    rw [List.getD_eq_getElem?_getD, List.getElem?_append_right h1, List.getElem?_eq_getElem (by omega)] at h
    exact hq (h ▸ List.getElem_mem _)
  have hnat : ∀ b : UInt8, ((b.toNat : Int) = 10) ↔ b = 10 := fun b => ⟨fun h => UInt8.toNat_inj.1 (by show b.toNat = 10; omega), fun h => by rw [h]; rfl⟩
  have hmk : mkB (bytesL D ++ q) = ⟨(bytesL D ++ q).toArray⟩ := rfl
  rw [hmk]
  rcases Lib.lastIndexByte_spec ⟨(bytesL D ++ q).toArray⟩ 10 with ⟨h, hno⟩ | ⟨i, hi, h, hc, hno⟩
  · rcases bytesL_end D with he | ⟨l, he⟩
    · rw [h, he]; rfl
    · exfalso
      have hlt : l.length < (bytesL D ++ q).length := by rw [he]; simp
      refine hno l.length (by rw [hz]; exact hlt) ?_
      rw [hg _ hlt, he, hnat]
      simp
  · rw [hz] at hi
    rw [hg _ hi, hnat] at hc
    rcases bytesL_end D with he | ⟨l, he⟩
    · exact absurd hc (hin i (by rw [he]; exact Nat.zero_le _) hi)
    · have h1 : i < (bytesL D).length := by
        rcases Nat.lt_or_ge i (bytesL D).length with h' | h'
        · exact h'
        · exact absurd hc (hin i h' hi)
      have h2 : l.length ≤ i := by
        rcases Nat.lt_or_ge i l.length with h' | h'
        · exfalso
          have hlt : l.length < (bytesL D ++ q).length := by rw [he]; simp
          refine hno l.length h' (by rw [hz]; exact hlt) ?_
          rw [hg _ hlt, he, hnat]
          simp
        · exact h'
      rw [h, he, List.length_append, List.length_singleton]
      rw [he, List.length_append, List.length_singleton] at h1
      omega

/-! ### a log as a value -/
structure LG where
  D : List E
  bs : List UInt8
  safe : Nat
  left : Int
  stopped : Bool
def LG.new : LG := ⟨[], [], 0, -1, false⟩
def LG.fail (G : LG) (n : Int) : LG := { G with left := max (-1) n }
def LG.step (G : LG) : LG := { G with stopped := decide (G.left = 0), left := max (-1) (G.left - 1) }
/-- the first half of a record -/
def halfL (r : List UInt8) : List UInt8 := r.take (r.length / 2)
/-- a deed that the store has done, or not -/
def LG.deed (G : LG) (r : (Int × Int) × List E) (rec : List UInt8) : (Int × Int) × LG :=
  if G.stopped = true then ((0, 6), G)
  else if r.1.2 ≠ 0 then ((0, r.1.2), G)
  else if G.left = 0 then ((0, 6), { G.step with bs := G.bs ++ halfL rec })
  else (r.1, { G.step with D := r.2, bs := G.bs ++ rec })
def LG.put (G : LG) (k : Int) (t : ByteArray) : (Int × Int) × LG := G.deed (rput G.D k t) (recL k.toNat false t)
def LG.del (G : LG) (k : Int) : (Int × Int) × LG := G.deed (rdel G.D k) (recL k.toNat true ⟨#[]⟩)
def LG.sync (G : LG) : Int × LG :=
  if G.stopped = true then (6, G)
  else if G.left = 0 then (6, G.step)
  else (0, { G.step with safe := G.bs.length })
/-- how many bytes are kept -/
def LG.high (G : LG) (keep : Int) : Nat := G.safe + (max 0 (min keep ((G.bs.length : Int) - (G.safe : Int)))).toNat
def LG.crash (G : LG) (keep : Int) : LG := ⟨G.D.take (wholeN G.D (G.high keep)), bytesL (G.D.take (wholeN G.D (G.high keep))), (bytesL (G.D.take (wholeN G.D (G.high keep)))).length, -1, false⟩
/-- what holds of a log at any time -/
structure LG.ok (G : LG) : Prop where
  val : ValD G.D
  bs : ∃ p, G.bs = bytesL G.D ++ p ∧ (10 : UInt8) ∉ p ∧ p.length ≤ 60 ∧ (G.stopped = false → p = [])
  safe : G.safe ≤ G.bs.length
  left : -1 ≤ G.left ∧ G.left ≤ 9223372036854775807
  many : G.D.length ≤ 1000
theorem halfL_no (k : Nat) (g : Bool) (t : ByteArray) : (10 : UInt8) ∉ halfL (recL k g t) := by
  unfold halfL
  rw [recL_eq, List.length_append, List.length_singleton, List.take_append_of_le_length (by have := List.length_pos_iff.2 (recB_ne k g t); omega)]
  exact fun h => recB_no k g t (List.mem_of_mem_take h)
theorem recL_le (k : Nat) (g : Bool) (t : ByteArray) (hk : k < 1000) (ht : t.size ≤ 12) : (recL k g t).length ≤ 56 := by
  rw [recL_eq, List.length_append, List.length_singleton]
  have := recB_len k g t hk
  omega
theorem halfL_le (l : List UInt8) : (halfL l).length ≤ l.length := by unfold halfL; rw [List.length_take]; omega
theorem bytesL_len : ∀ (D : List E), (∀ e ∈ D, DeedE e) → (bytesL D).length ≤ 56 * D.length
  | [], _ => Nat.zero_le _
  | e :: D, h => by
    have h1 := bytesL_len D (fun x hx => h x (by simp [hx]))
    have h2 := h e (by simp)
    have h3 := recL_le e.key.toNat e.gone e.text (by have := h2.key; omega) h2.text
    rw [bytesL_cons, List.length_append, List.length_cons]
    unfold recE
    omega
theorem ValD.each {D : List E} (h : ValD D) : ∀ e ∈ D, DeedE e := fun e he => by
  obtain ⟨A, B, hAB⟩ := List.append_of_mem he
  exact (h A e B hAB).1
theorem LG.ok.len {G : LG} (h : G.ok) : G.bs.length ≤ 57000 := by
  obtain ⟨p, hp, _, hl, _⟩ := h.bs
  have h1 := bytesL_len G.D h.val.each
  have h2 := h.many
  rw [hp, List.length_append]
  omega
theorem LG.new_ok : LG.new.ok := ⟨ValD.nil, ⟨[], rfl, by simp, by simp, fun _ => rfl⟩, Nat.le_refl _, ⟨by decide, by decide⟩, by simp [LG.new]⟩
theorem LG.fail_ok {G : LG} (h : G.ok) {n : Int} (hn : n ≤ 9223372036854775807) : (G.fail n).ok := ⟨h.val, h.bs, h.safe, ⟨by show -1 ≤ max (-1) n; omega, by show max (-1) n ≤ _; omega⟩, h.many⟩
theorem LG.step_left {G : LG} (h : G.ok) : -1 ≤ max (-1) (G.left - 1) ∧ max (-1) (G.left - 1) ≤ 9223372036854775807 := by
  have := h.left
  omega
theorem LG.deed_ok {G : LG} (h : G.ok) {r : (Int × Int) × List E} {k : Nat} {g : Bool} {t : ByteArray} (hk : r.1.2 = 0 → k < 8 ∧ t.size ≤ 12 ∧ ValD r.2 ∧ G.D.length ≠ 1000 ∧ ∃ e, r.2 = G.D ++ [e] ∧ recE e = recL k g t) : (G.deed r (recL k g t)).2.ok := by
  unfold LG.deed
  split
  · exact h
  · rename_i hs
    have hs' : G.stopped = false := by simpa using hs
    obtain ⟨p, hp, hpn, hpl, hp0⟩ := h.bs
    have hpe := hp0 hs'
    subst hpe
    rw [List.append_nil] at hp
    split
    · exact h
    · rename_i hr
      obtain ⟨h1, h2, h3, h4, e, h5, h6⟩ := hk (Classical.not_not.1 hr)
      have hle := recL_le k g t (by omega) h2
      split
      · rename_i hl
        refine ⟨h.val, ⟨halfL (recL k g t), by show G.bs ++ halfL (recL k g t) = bytesL G.D ++ halfL (recL k g t); rw [hp], halfL_no _ _ _, ?_, fun hx => ?_⟩, ?_, LG.step_left h, h.many⟩
        · have := halfL_le (recL k g t); omega
        · simp [LG.step, hl] at hx
        · show G.safe ≤ (G.bs ++ halfL (recL k g t)).length
          have := h.safe
          rw [List.length_append]; omega
      · refine ⟨h3, ⟨[], by show G.bs ++ recL k g t = bytesL r.2 ++ []; rw [h5, bytesL_snoc, h6, hp, List.append_nil], by simp, by simp, fun _ => rfl⟩, ?_, LG.step_left h, ?_⟩
        · show G.safe ≤ (G.bs ++ recL k g t).length
          have := h.safe
          rw [List.length_append]; omega
        · show r.2.length ≤ 1000
          have := h.many
          rw [h5, List.length_append, List.length_singleton]; omega
theorem LG.put_ok {G : LG} (h : G.ok) (k : Int) (t : ByteArray) : (G.put k t).2.ok := by
  refine LG.deed_ok h (fun hr => ?_)
  obtain ⟨h1, h2, h3, h4⟩ := rput_ok hr
  exact ⟨by omega, h2, h.val.put hr, h3, _, by rw [h4], rfl⟩
theorem LG.del_ok {G : LG} (h : G.ok) (k : Int) : (G.del k).2.ok := by
  refine LG.deed_ok h (fun hr => ?_)
  obtain ⟨h1, h3, h4⟩ := rdel_ok hr
  exact ⟨by omega, by decide, h.val.del hr, h3, _, by rw [h4], rfl⟩
theorem LG.sync_ok {G : LG} (h : G.ok) : G.sync.2.ok := by
  unfold LG.sync
  split
  · exact h
  · rename_i hs
    have hs' : G.stopped = false := by simpa using hs
    obtain ⟨p, hp, hpn, hpl, hp0⟩ := h.bs
    have hpe := hp0 hs'
    subst hpe
    split
    · exact ⟨h.val, ⟨[], hp, by simp, by simp, fun _ => rfl⟩, h.safe, LG.step_left h, h.many⟩
    · exact ⟨h.val, ⟨[], hp, by simp, by simp, fun _ => rfl⟩, Nat.le_refl _, LG.step_left h, h.many⟩
theorem LG.crash_ok {G : LG} (h : G.ok) (keep : Int) : (G.crash keep).ok :=
  ⟨h.val.take _, ⟨[], by simp [LG.crash], by simp, by simp, fun _ => rfl⟩, Nat.le_refl _, ⟨by show (-1 : Int) ≤ -1; decide, by show (-1 : Int) ≤ _; decide⟩, by
    show (G.D.take _).length ≤ 1000
    have := h.many
    rw [List.length_take]
    omega⟩
theorem LG.high_le {G : LG} (h : G.ok) (keep : Int) : G.high keep ≤ G.bs.length := by
  have := h.safe
  unfold LG.high
  omega
/-- what is cut at the last newline of the bytes that are kept -/
theorem LG.cut {G : LG} (h : G.ok) (keep : Int) : ∃ q, G.bs.take (G.high keep) = (G.crash keep).bs ++ q ∧ (10 : UInt8) ∉ q ∧ Lib.lastIndexByte (mkB (G.bs.take (G.high keep))) 10 + 1 = ((G.crash keep).bs.length : Int) := by
  obtain ⟨p, hp, hpn, _, _⟩ := h.bs
  obtain ⟨q, hq, hqn⟩ := wholeN_cut G.D p (G.high keep) hpn
  rw [← hp] at hq
  exact ⟨q, hq, hqn, by rw [hq]; exact last_nl _ _ hqn⟩
end Go.Proofs.YtemhdfodghfkfaaGreatDoor
namespace Go.Proofs.YtemhdfodghfkfaaGreatDoor
open Go

/-! ### cut at a byte -/
def cutGo (c : UInt8) : List UInt8 → List UInt8 → List (List UInt8)
  | cur, [] => [cur]
  | cur, b :: l => if b = c then cur :: cutGo c [] l else cutGo c (cur ++ [b]) l
/-- a text cut at each byte c -/
def cutC (c : UInt8) (l : List UInt8) : List (List UInt8) := cutGo c [] l
theorem cutGo_one (c : UInt8) : ∀ (p cur m : List UInt8), c ∉ p → cutGo c cur (p ++ c :: m) = (cur ++ p) :: cutGo c [] m
  | [], cur, m, _ => by rw [List.nil_append, cutGo, if_pos rfl, List.append_nil]
  | b :: p, cur, m, h => by
    have hb : b ≠ c := fun e => h (by simp [e])
    rw [List.cons_append, cutGo, if_neg hb, cutGo_one c p _ m (fun hm => h (by simp [hm]))]
    simp
theorem cutGo_none (c : UInt8) : ∀ (p cur : List UInt8), c ∉ p → cutGo c cur p = [cur ++ p]
  | [], cur, _ => by rw [cutGo, List.append_nil]
  | b :: p, cur, h => by
    have hb : b ≠ c := fun e => h (by simp [e])
    rw [cutGo, if_neg hb, cutGo_none c p _ (fun hm => h (by simp [hm]))]
    simp
theorem cutGo_ne (c : UInt8) : ∀ (l cur : List UInt8), cutGo c cur l ≠ []
  | [], cur => by rw [cutGo]; simp
  | b :: l, cur => by
    rw [cutGo]
    split
    · simp
    · exact cutGo_ne c l _
theorem cutC_ne (c : UInt8) (l : List UInt8) : cutC c l ≠ [] := cutGo_ne c l []
theorem cutC_pos (c : UInt8) (l : List UInt8) : 0 < (cutC c l).length := List.length_pos_iff.2 (cutC_ne c l)
theorem find_byte (c : UInt8) : ∀ (l : List UInt8), c ∉ l ∨ ∃ p m, l = p ++ c :: m ∧ c ∉ p
  | [] => .inl (by simp)
  | b :: l => by
    by_cases hb : b = c
    · subst hb
      exact .inr ⟨[], l, rfl, by simp⟩
    · rcases find_byte c l with h | ⟨p, m, rfl, h⟩
      · exact .inl (fun hm => by
          rcases List.mem_cons.1 hm with e | hm
          · exact hb e.symm
          · exact h hm)
      · exact .inr ⟨b :: p, m, rfl, fun hm => by
          rcases List.mem_cons.1 hm with e | hm
          · exact hb e.symm
          · exact h hm⟩
theorem cutC_one (c : UInt8) {p m : List UInt8} (h : c ∉ p) : cutC c (p ++ c :: m) = p :: cutC c m := by
  rw [cutC, cutGo_one c p [] m h, List.nil_append, cutC]
theorem cutC_none (c : UInt8) {p : List UInt8} (h : c ∉ p) : cutC c p = [p] := by
  rw [cutC, cutGo_none c p [] h, List.nil_append]
theorem index_hit (c : UInt8) : ∀ (p m : List UInt8), c ∉ p → Lib.index (p ++ c :: m) [c] = (p.length : Int)
  | [], m, _ => by rw [List.nil_append, Lib.index]; simp [List.isPrefixOf]
  | b :: p, m, h => by
    have hb : ¬ c = b := fun e => h (by simp [e])
    have ih := index_hit c p m (fun hm => h (by simp [hm]))
    have hp : ([c] : List UInt8).isPrefixOf (b :: (p ++ c :: m)) = false := by simp [List.isPrefixOf, hb]
    rw [List.cons_append, Lib.index, hp, if_neg (by simp), ih, if_neg (fun e => by have := beq_iff_eq.1 e; omega), List.length_cons]
    omega
theorem index_miss (c : UInt8) : ∀ (p : List UInt8), c ∉ p → Lib.index p [c] = -1
  | [], _ => by simp [Lib.index]
  | b :: p, h => by
    have hb : ¬ c = b := fun e => h (by simp [e])
    have ih := index_miss c p (fun hm => h (by simp [hm]))
    have hp : ([c] : List UInt8).isPrefixOf (b :: p) = false := by simp [List.isPrefixOf, hb]
    rw [Lib.index, hp, if_neg (by simp), ih]
    rfl
/-- what strings.Split does at one byte -/
theorem splitK_cut (c : UInt8) : ∀ (k : Nat) (s : List UInt8), s.count c = k → Lib.splitK [c] 0 k s = cutC c s
  | 0, s, h => by
    have hc : c ∉ s := List.count_eq_zero.1 h
    rw [Lib.splitK, cutC_none c hc]
  | k + 1, s, h => by
    rcases find_byte c s with hc | ⟨p, m, rfl, hp⟩
    · rw [List.count_eq_zero.2 hc] at h
      cases h
    · have hcm : m.count c = k := by
        rw [List.count_append, List.count_eq_zero.2 hp, List.count_cons_self] at h
        omega
      have hi := index_hit c p m hp
      rw [Lib.splitK, hi, if_neg (fun e => by have := beq_iff_eq.1 e; omega), cutC_one c hp]
      have h1 : (((p.length : Nat) : Int).toNat + 0) = p.length := by omega
      have h2 : (((p.length : Nat) : Int).toNat + ([c] : List UInt8).length) = p.length + 1 := by simp
      rw [h1, h2, List.take_left', ← splitK_cut c k m hcm]
      · congr 2
        rw [List.drop_append]
        simp
      · rfl
theorem split_cut (c : UInt8) (s : ByteArray) : Lib.splitB (mkB [c]) 0 (Lib.countB s (mkB [c])) s = (cutC c s.data.toList).map mkB := by
  have h1 := Lib.splitB_data (mkB [c]) 0 (Lib.countB s (mkB [c])) s
  rw [show (mkB [c]).data.toList = [c] from rfl, show Lib.countB s (mkB [c]) = s.data.toList.count c from Lib.count_one c _, splitK_cut c _ _ rfl] at h1
  rw [← h1, List.map_map]
  rw [show Lib.countB s (mkB [c]) = s.data.toList.count c from Lib.count_one c _]
  exact (List.map_id _).symm.trans (List.map_congr_left (fun x _ => rfl))
/-- the pieces' lengths -/
theorem cutGo_len (c : UInt8) : ∀ (l cur : List UInt8), ∀ p ∈ cutGo c cur l, p.length ≤ cur.length + l.length
  | [], cur, p, hp => by
    rw [cutGo] at hp
    rw [List.mem_singleton.1 hp]
    exact Nat.le_add_right _ _
  | b :: l, cur, p, hp => by
    rw [cutGo] at hp
    rw [List.length_cons]
    split at hp
    · rcases List.mem_cons.1 hp with rfl | hp
      · omega
      · have := cutGo_len c l [] p hp
        rw [List.length_nil] at this
        omega
    · have := cutGo_len c l _ p hp
      rw [List.length_append, List.length_singleton] at this
      omega
theorem cutC_len (c : UInt8) (l : List UInt8) : ∀ p ∈ cutC c l, p.length ≤ l.length := fun p hp => by
  have := cutGo_len c l [] p hp
  rw [List.length_nil] at this
  omega
theorem cutGo_many (c : UInt8) : ∀ (l cur : List UInt8), (cutGo c cur l).length ≤ l.length + 1
  | [], cur => by rw [cutGo]; simp
  | b :: l, cur => by
    rw [cutGo, List.length_cons]
    split
    · rw [List.length_cons]
      have := cutGo_many c l []
      omega
    · have := cutGo_many c l (cur ++ [b])
      omega
theorem cutC_many (c : UInt8) (l : List UInt8) : (cutC c l).length ≤ l.length + 1 := cutGo_many c l []

/-! ### numbers -/
def isDig (b : UInt8) : Bool := decide (48 ≤ b.toNat) && decide (b.toNat ≤ 57)
def stepV (n : Nat) (b : UInt8) : Nat := n * 10 + (b.toNat - 48)
def valN (n : Nat) (l : List UInt8) : Nat := l.foldl stepV n
theorem valN_nil (n : Nat) : valN n [] = n := List.foldl_nil
theorem valN_cons (n : Nat) (b : UInt8) (l : List UInt8) : valN n (b :: l) = valN (stepV n b) l := List.foldl_cons ..
/-- the number of a word: at most four digits, without a needless zero -/
def numL (l : List UInt8) : Option Nat := if l.length = 0 ∨ 4 < l.length ∨ (l.headD 0 = 48 ∧ 1 < l.length) ∨ l.all isDig = false then none else some (valN 0 l)
def dgt (d : Nat) : UInt8 := UInt8.ofNat (48 + d)
def digN (n : Nat) : List UInt8 :=
  if n < 10 then [dgt n] else if n < 100 then [dgt (n / 10), dgt (n % 10)] else if n < 1000 then [dgt (n / 10 / 10), dgt (n / 10 % 10), dgt (n % 10)]
  else [dgt (n / 10 / 10 / 10), dgt (n / 10 / 10 % 10), dgt (n / 10 % 10), dgt (n % 10)]
theorem dec_small {n : Nat} (h : n < 10) : Lib.decDigits n = [dgt n] := by rw [Lib.decDigits, dif_pos h]; rfl
theorem dec_big {n : Nat} (h : ¬ n < 10) : Lib.decDigits n = Lib.decDigits (n / 10) ++ [dgt (n % 10)] := by rw [Lib.decDigits, dif_neg h]; rfl
theorem digN_eq {n : Nat} (h : n < 10000) : Lib.decDigits n = digN n := by
  unfold digN
  split
  · exact dec_small (by assumption)
  · split
    · rw [dec_big (by omega), dec_small (by omega)]; rfl
    · split
      · rw [dec_big (by omega), dec_big (by omega), dec_small (by omega)]; rfl
      · rw [dec_big (by omega), dec_big (by omega), dec_big (by omega), dec_small (by omega)]; rfl
theorem digN_len (n : Nat) : 1 ≤ (digN n).length ∧ (digN n).length ≤ 4 := by
  unfold digN
  split
  · exact ⟨by simp, by simp⟩
  · split
    · exact ⟨by simp, by simp⟩
    · split
      · exact ⟨by simp, by simp⟩
      · exact ⟨by simp, by simp⟩
theorem dgt_nat {d : Nat} (h : d < 10) : (dgt d).toNat = 48 + d := by unfold dgt; rw [UInt8.toNat_ofNat']; omega
theorem dgt_dig {d : Nat} (h : d < 10) : isDig (dgt d) = true := by unfold isDig; rw [dgt_nat h]; simp; omega
theorem dgt_val {d : Nat} (h : d < 10) : (dgt d).toNat - 48 = d := by rw [dgt_nat h]; omega
theorem dgt_zero {d : Nat} (h : d < 10) : dgt d = 48 ↔ d = 0 := by
  constructor
  · intro e
    have := congrArg UInt8.toNat e
    rw [dgt_nat h] at this
    have h48 : (48 : UInt8).toNat = 48 := rfl
    omega
  · rintro rfl; rfl
theorem numL_of {l : List UInt8} (h0 : l.length ≠ 0) (h4 : l.length ≤ 4) (hz : l.headD 0 = 48 → ¬ 1 < l.length) (ha : ∀ b ∈ l, isDig b = true) : numL l = some (valN 0 l) := if_neg (fun h => by
  rcases h with h | h | h | h
  · exact h0 h
  · omega
  · exact hz h.1 h.2
  · rw [List.all_eq_true.2 ha] at h
    cases h)
theorem numL_one {a : Nat} (ha : a < 10) : numL [dgt a] = some a := by
  have hd := dgt_dig ha
  have hv := dgt_val ha
  generalize dgt a = x at *
  rw [numL_of (l := [x]) (by simp) (by simp) (fun _ => by simp) (fun b hb => by rw [List.mem_singleton.1 hb]; exact hd)]
  show some (0 * 10 + (x.toNat - 48)) = some a
  rw [hv]
  congr 1
  omega
theorem numL_two {a b : Nat} (ha : a < 10) (hb : b < 10) (hz : a ≠ 0) : numL [dgt a, dgt b] = some (a * 10 + b) := by
  have h0 : ¬ dgt a = 48 := fun e => hz ((dgt_zero ha).1 e)
  have hd := dgt_dig ha
  have hv := dgt_val ha
  have hd2 := dgt_dig hb
  have hv2 := dgt_val hb
  generalize dgt a = x at *
  generalize dgt b = y at *
  rw [numL_of (l := [x, y]) (by simp) (by simp) (fun h => absurd h h0) (fun b hb => by simp at hb; rcases hb with rfl | rfl <;> assumption)]
  show some ((0 * 10 + (x.toNat - 48)) * 10 + (y.toNat - 48)) = some (a * 10 + b)
  rw [hv, hv2]
  congr 1
  omega
theorem numL_three {a b c : Nat} (ha : a < 10) (hb : b < 10) (hc : c < 10) (hz : a ≠ 0) : numL [dgt a, dgt b, dgt c] = some ((a * 10 + b) * 10 + c) := by
  have h0 : ¬ dgt a = 48 := fun e => hz ((dgt_zero ha).1 e)
  have hd := dgt_dig ha
  have hv := dgt_val ha
  have hd2 := dgt_dig hb
  have hv2 := dgt_val hb
  have hd3 := dgt_dig hc
  have hv3 := dgt_val hc
  generalize dgt a = x at *
  generalize dgt b = y at *
  generalize dgt c = z at *
  rw [numL_of (l := [x, y, z]) (by simp) (by simp) (fun h => absurd h h0) (fun b hb => by simp at hb; rcases hb with rfl | rfl | rfl <;> assumption)]
  show some (((0 * 10 + (x.toNat - 48)) * 10 + (y.toNat - 48)) * 10 + (z.toNat - 48)) = some ((a * 10 + b) * 10 + c)
  rw [hv, hv2, hv3]
  congr 1
  omega
theorem numL_four {a b c d : Nat} (ha : a < 10) (hb : b < 10) (hc : c < 10) (hd : d < 10) (hz : a ≠ 0) : numL [dgt a, dgt b, dgt c, dgt d] = some (((a * 10 + b) * 10 + c) * 10 + d) := by
  have h0 : ¬ dgt a = 48 := fun e => hz ((dgt_zero ha).1 e)
  have hd1 := dgt_dig ha
  have hv := dgt_val ha
  have hd2 := dgt_dig hb
  have hv2 := dgt_val hb
  have hd3 := dgt_dig hc
  have hv3 := dgt_val hc
  have hd4 := dgt_dig hd
  have hv4 := dgt_val hd
  generalize dgt a = x at *
  generalize dgt b = y at *
  generalize dgt c = z at *
  generalize dgt d = u at *
  rw [numL_of (l := [x, y, z, u]) (by simp) (by simp) (fun h => absurd h h0) (fun b hb => by simp at hb; rcases hb with rfl | rfl | rfl | rfl <;> assumption)]
  show some ((((0 * 10 + (x.toNat - 48)) * 10 + (y.toNat - 48)) * 10 + (z.toNat - 48)) * 10 + (u.toNat - 48)) = some (((a * 10 + b) * 10 + c) * 10 + d)
  rw [hv, hv2, hv3, hv4]
  congr 1
  omega
theorem numL_dig {n : Nat} (h : n < 10000) : numL (digN n) = some n := by
  by_cases h1 : n < 10
  · rw [show digN n = [dgt n] from if_pos h1, numL_one h1]
  · by_cases h2 : n < 100
    · rw [show digN n = [dgt (n / 10), dgt (n % 10)] by rw [digN, if_neg h1, if_pos h2], numL_two (by omega) (by omega) (by omega)]
      congr 1
      omega
    · by_cases h3 : n < 1000
      · rw [show digN n = [dgt (n / 10 / 10), dgt (n / 10 % 10), dgt (n % 10)] by rw [digN, if_neg h1, if_neg h2, if_pos h3], numL_three (by omega) (by omega) (by omega) (by omega)]
        congr 1
        omega
      · rw [show digN n = [dgt (n / 10 / 10 / 10), dgt (n / 10 / 10 % 10), dgt (n / 10 % 10), dgt (n % 10)] by rw [digN, if_neg h1, if_neg h2, if_neg h3], numL_four (by omega) (by omega) (by omega) (by omega) (by omega)]
        congr 1
        omega
theorem dig_back {b : UInt8} (h : isDig b = true) : b = dgt (b.toNat - 48) ∧ b.toNat - 48 < 10 := by
  unfold isDig at h
  simp at h
  refine ⟨UInt8.toNat_inj.1 ?_, by omega⟩
  rw [dgt_nat (by omega)]
  omega
theorem digN_1 {x : Nat} (hx : x < 10) : digN x = [dgt x] := if_pos hx
theorem digN_2 {x y : Nat} (hx : x < 10) (hy : y < 10) (hz : x ≠ 0) : digN (x * 10 + y) = [dgt x, dgt y] := by
  rw [digN, if_neg (by omega), if_pos (by omega), show (x * 10 + y) / 10 = x by omega, show (x * 10 + y) % 10 = y by omega]
theorem digN_3 {x y z : Nat} (hx : x < 10) (hy : y < 10) (hz : z < 10) (h0 : x ≠ 0) : digN ((x * 10 + y) * 10 + z) = [dgt x, dgt y, dgt z] := by
  rw [digN, if_neg (by omega), if_neg (by omega), if_pos (by omega), show ((x * 10 + y) * 10 + z) / 10 / 10 = x by omega, show ((x * 10 + y) * 10 + z) / 10 % 10 = y by omega, show ((x * 10 + y) * 10 + z) % 10 = z by omega]
theorem digN_4 {x y z u : Nat} (hx : x < 10) (hy : y < 10) (hz : z < 10) (hu : u < 10) (h0 : x ≠ 0) : digN (((x * 10 + y) * 10 + z) * 10 + u) = [dgt x, dgt y, dgt z, dgt u] := by
  rw [digN, if_neg (by omega), if_neg (by omega), if_neg (by omega), show (((x * 10 + y) * 10 + z) * 10 + u) / 10 / 10 / 10 = x by omega, show (((x * 10 + y) * 10 + z) * 10 + u) / 10 / 10 % 10 = y by omega, show (((x * 10 + y) * 10 + z) * 10 + u) / 10 % 10 = z by omega, show (((x * 10 + y) * 10 + z) * 10 + u) % 10 = u by omega]
/-- what a digit is -/
theorem dig_of_is {b : UInt8} (h : isDig b = true) : ∃ x : Nat, x < 10 ∧ b = dgt x ∧ b.toNat - 48 = x ∧ (b = 48 ↔ x = 0) := by
  obtain ⟨h1, h2⟩ := dig_back h
  exact ⟨b.toNat - 48, h2, h1, rfl, by
    constructor
    · intro e
      rw [e]
      rfl
    · intro e
      rw [h1, e]
      rfl⟩
theorem dig_1 {a : UInt8} (ha : isDig a = true) : valN 0 [a] < 10000 ∧ [a] = digN (valN 0 [a]) := by
  obtain ⟨x, x1, x2, x3, -⟩ := dig_of_is ha
  have hv : valN 0 [a] = x := by
    show 0 * 10 + (a.toNat - 48) = x
    rw [x3]
    omega
  rw [hv, digN_1 x1, ← x2]
  exact ⟨by omega, rfl⟩
theorem dig_2 {a b : UInt8} (ha : isDig a = true) (hb : isDig b = true) (hz : ¬ a = 48) : valN 0 [a, b] < 10000 ∧ [a, b] = digN (valN 0 [a, b]) := by
  obtain ⟨x, x1, x2, x3, x4⟩ := dig_of_is ha
  obtain ⟨y, y1, y2, y3, -⟩ := dig_of_is hb
  have h0 : x ≠ 0 := fun e => hz (x4.2 e)
  have hv : valN 0 [a, b] = x * 10 + y := by
    show (0 * 10 + (a.toNat - 48)) * 10 + (b.toNat - 48) = x * 10 + y
    rw [x3, y3]
    omega
  rw [hv, digN_2 x1 y1 h0, ← x2, ← y2]
  exact ⟨by omega, rfl⟩
theorem dig_3 {a b c : UInt8} (ha : isDig a = true) (hb : isDig b = true) (hc : isDig c = true) (hz : ¬ a = 48) : valN 0 [a, b, c] < 10000 ∧ [a, b, c] = digN (valN 0 [a, b, c]) := by
  obtain ⟨x, x1, x2, x3, x4⟩ := dig_of_is ha
  obtain ⟨y, y1, y2, y3, -⟩ := dig_of_is hb
  obtain ⟨z, z1, z2, z3, -⟩ := dig_of_is hc
  have h0 : x ≠ 0 := fun e => hz (x4.2 e)
  have hv : valN 0 [a, b, c] = (x * 10 + y) * 10 + z := by
    show ((0 * 10 + (a.toNat - 48)) * 10 + (b.toNat - 48)) * 10 + (c.toNat - 48) = (x * 10 + y) * 10 + z
    rw [x3, y3, z3]
    omega
  rw [hv, digN_3 x1 y1 z1 h0, ← x2, ← y2, ← z2]
  exact ⟨by omega, rfl⟩
theorem dig_4 {a b c d : UInt8} (ha : isDig a = true) (hb : isDig b = true) (hc : isDig c = true) (hd : isDig d = true) (hz : ¬ a = 48) : valN 0 [a, b, c, d] < 10000 ∧ [a, b, c, d] = digN (valN 0 [a, b, c, d]) := by
  obtain ⟨x, x1, x2, x3, x4⟩ := dig_of_is ha
  obtain ⟨y, y1, y2, y3, -⟩ := dig_of_is hb
  obtain ⟨z, z1, z2, z3, -⟩ := dig_of_is hc
  obtain ⟨u, u1, u2, u3, -⟩ := dig_of_is hd
  have h0 : x ≠ 0 := fun e => hz (x4.2 e)
  have hv : valN 0 [a, b, c, d] = ((x * 10 + y) * 10 + z) * 10 + u := by
    show (((0 * 10 + (a.toNat - 48)) * 10 + (b.toNat - 48)) * 10 + (c.toNat - 48)) * 10 + (d.toNat - 48) = ((x * 10 + y) * 10 + z) * 10 + u
    rw [x3, y3, z3, u3]
    omega
  rw [hv, digN_4 x1 y1 z1 u1 h0, ← x2, ← y2, ← z2, ← u2]
  exact ⟨by omega, rfl⟩
theorem numL_some {l : List UInt8} {n : Nat} (h : numL l = some n) : n < 10000 ∧ l = digN n := by
  unfold numL at h
  split at h
  · cases h
  · rename_i hc
    have e := Option.some.inj h
    subst e
    have hall : l.all isDig = true := by
      rcases hh : l.all isDig with _ | _
      · exact absurd (.inr (.inr (.inr hh))) hc
      · rfl
    have hd : ∀ b ∈ l, isDig b = true := List.all_eq_true.1 hall
    have hz : ¬ (l.headD 0 = 48 ∧ 1 < l.length) := fun hx => hc (.inr (.inr (.inl hx)))
    have h0 : l.length ≠ 0 := fun hx => hc (.inl hx)
    have h4 : ¬ 4 < l.length := fun hx => hc (.inr (.inl hx))
    clear hc hall
    match l, hd, hz, h0, h4 with
    | [], _, _, h0, _ => exact absurd rfl h0
    | [a], hd, _, _, _ => exact dig_1 (hd a (by simp))
    | [a, b], hd, hz, _, _ => exact dig_2 (hd a (by simp)) (hd b (by simp)) (fun hx => hz ⟨hx, by simp⟩)
    | [a, b, c], hd, hz, _, _ => exact dig_3 (hd a (by simp)) (hd b (by simp)) (hd c (by simp)) (fun hx => hz ⟨hx, by simp⟩)
    | [a, b, c, d], hd, hz, _, _ => exact dig_4 (hd a (by simp)) (hd b (by simp)) (hd c (by simp)) (hd d (by simp)) (fun hx => hz ⟨hx, by simp⟩)
    | a :: b :: c :: d :: f :: r, _, _, _, h4 => exact absurd (by simp) h4
theorem numL_none {l : List UInt8} : numL l = none ↔ ∀ n : Nat, n < 10000 → l ≠ Lib.decDigits n := by
  constructor
  · intro h n hn e
    rw [e, digN_eq hn, numL_dig hn] at h
    cases h
  · intro h
    cases hl : numL l with
    | none => rfl
    | some n =>
      obtain ⟨h1, h2⟩ := numL_some hl
      exact absurd (by rw [digN_eq h1]; exact h2) (h n h1)
end Go.Proofs.YtemhdfodghfkfaaGreatDoor
