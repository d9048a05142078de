/-
  PLAIN: a log as a value: the deeds that its store has, its bytes, how many are safe, how many steps are left, whether it has stopped; what is whole among its bytes. CONDITIONS: none. No program in this text.
-/
import Derived.Test.YtljkclebcoanaaaGreatDoorLogLaw
import Derived.Test.YtljkclebcoanaaaGreatDoorStoreD
import Derived.Lib.LastIndexByte
namespace Go.Proofs.YtljkclebcoanaaaGreatDoor
open Go Go.RowKit

/-- a record of a deed -/
def recE (e : E) : List UInt8 := recL e.key.toNat e.gone e.text
/-- the records of deeds -/
def bytesL (D : List E) : List UInt8 := D.flatMap recE
theorem bytesL_nil : bytesL [] = [] := rfl
theorem bytesL_cons (e : E) (D : List E) : bytesL (e :: D) = recE e ++ bytesL D := List.flatMap_cons
theorem bytesL_app (A B : List E) : bytesL (A ++ B) = bytesL A ++ bytesL B := List.flatMap_append
theorem bytesL_snoc (D : List E) (e : E) : bytesL (D ++ [e]) = bytesL D ++ recE e := by
  rw [bytesL_app, bytesL_cons, bytesL_nil, List.append_nil]
theorem recE_two (e : E) : 2 ≤ (recE e).length := recL_two _ _ _
/-- a deed, as a log writes it -/
structure DeedE (e : E) : Prop where
  key : 0 ≤ e.key ∧ e.key < 8
  text : e.text.size ≤ 12
  rest : e.ver = 0 ∧ e.asof = 0
  gone : e.gone = true → e.text = ⟨#[]⟩
/-- what a deed does to deeds -/
def redoE (D : List E) (e : E) : (Int × Int) × List E := if e.gone = true then rdel D e.key else rput D e.key e.text
/-- deeds that can be done again, one after the other -/
def ValD (D : List E) : Prop := ∀ A e B, D = A ++ e :: B → DeedE e ∧ redoE A e = (((A.length : Int) + 1, 0), A ++ [e])
theorem ValD.nil : ValD [] := fun A e B h => by
  have := congrArg List.length h
  simp at this
theorem ValD.pre {A B : List E} (h : ValD (A ++ B)) : ValD A := fun A' e B' he => h A' e (B' ++ B) (by rw [he]; simp)
theorem ValD.take {D : List E} (h : ValD D) (i : Nat) : ValD (D.take i) := by
  have e := (List.take_append_drop i D).symm
  rw [e] at h
  exact h.pre
theorem ValD.snoc {D : List E} {e : E} (h : ValD D) (he : DeedE e) (hr : redoE D e = (((D.length : Int) + 1, 0), D ++ [e])) : ValD (D ++ [e]) := fun A x B hx => by
  rcases List.eq_nil_or_concat B with rfl | ⟨B', b, rfl⟩
  · obtain ⟨h1, h2⟩ := List.append_inj' hx rfl
    cases h2
    subst h1
    exact ⟨he, hr⟩
  · rw [show A ++ x :: B'.concat b = (A ++ x :: B') ++ [b] by simp] at hx
    obtain ⟨h1, h2⟩ := List.append_inj' hx rfl
    exact h A x B' h1
theorem rdone_ok {D : List E} {e : E} (h : (rdone D e).1.2 = 0) : D.length < 1000 ∧ rdone D e = (((D.length : Int) + 1, 0), D ++ [e]) ∨ D.length > 1000 ∧ rdone D e = (((D.length : Int) + 1, 0), D ++ [e]) := by
  unfold rdone at h ⊢
  split
  · rename_i hn
    rw [if_pos hn] at h
    simp at h
  · rename_i hn
    rcases Nat.lt_or_ge D.length 1000 with h' | h'
    · exact .inl ⟨h', rfl⟩
    · exact .inr ⟨by omega, rfl⟩
theorem rdone_eq {D : List E} {e : E} (h : (rdone D e).1.2 = 0) : rdone D e = (((D.length : Int) + 1, 0), D ++ [e]) := by
  rcases rdone_ok h with h | h
  · exact h.2
  · exact h.2
theorem rdone_len {D : List E} {e : E} (h : (rdone D e).1.2 = 0) : D.length ≠ 1000 := by
  intro hn
  unfold rdone at h
  rw [if_pos hn] at h
  simp at h
/-- a text put without a fault -/
theorem rput_ok {D : List E} {k : Int} {t : ByteArray} (h : (rput D k t).1.2 = 0) : (0 ≤ k ∧ k < 8) ∧ t.size ≤ 12 ∧ D.length ≠ 1000 ∧ rput D k t = (((D.length : Int) + 1, 0), D ++ [⟨k, 0, 0, false, t⟩]) := by
  unfold rput at h ⊢
  split at h
  · rename_i hk
    rw [if_pos hk]
    split at h
    · simp at h
    · rename_i ht
      rw [if_neg ht]
      exact ⟨keyB_true.1 hk, by omega, rdone_len h, rdone_eq h⟩
  · simp at h
theorem rdel_ok {D : List E} {k : Int} (h : (rdel D k).1.2 = 0) : (0 ≤ k ∧ k < 8) ∧ D.length ≠ 1000 ∧ rdel D k = (((D.length : Int) + 1, 0), D ++ [⟨k, 0, 0, true, ⟨#[]⟩⟩]) := by
  unfold rdel at h ⊢
  split at h
  · rename_i hk
    rw [if_pos hk]
    split at h
    · simp at h
    · rename_i ht
      rw [if_neg ht]
      exact ⟨keyB_true.1 hk, rdone_len h, rdone_eq h⟩
  · simp at h
/-- with a fault nothing is done -/
theorem rdone_bad {D : List E} {e : E} (h : (rdone D e).1.2 ≠ 0) : (rdone D e).2 = D ∧ (rdone D e).1.1 = 0 := by
  unfold rdone at h ⊢
  split
  · exact ⟨rfl, rfl⟩
  · rename_i hn
    rw [if_neg hn] at h
    exact absurd rfl h
theorem rput_bad {D : List E} {k : Int} {t : ByteArray} (h : (rput D k t).1.2 ≠ 0) : (rput D k t).2 = D ∧ (rput D k t).1.1 = 0 := by
  unfold rput at h ⊢
  split
  · rename_i hk
    rw [if_pos hk] at h
    split
    · exact ⟨rfl, rfl⟩
    · rename_i ht
      rw [if_neg ht] at h
      exact rdone_bad h
  · exact ⟨rfl, rfl⟩
theorem rdel_bad {D : List E} {k : Int} (h : (rdel D k).1.2 ≠ 0) : (rdel D k).2 = D ∧ (rdel D k).1.1 = 0 := by
  unfold rdel at h ⊢
  split
  · rename_i hk
    rw [if_pos hk] at h
    split
    · exact ⟨rfl, rfl⟩
    · rename_i ht
      rw [if_neg ht] at h
      exact rdone_bad h
  · exact ⟨rfl, rfl⟩
theorem ValD.put {D : List E} (h : ValD D) {k : Int} {t : ByteArray} (hr : (rput D k t).1.2 = 0) : ValD (rput D k t).2 := by
  obtain ⟨hk, ht, _, he⟩ := rput_ok hr
  rw [he]
  exact h.snoc ⟨hk, ht, ⟨rfl, rfl⟩, fun h => by cases h⟩ (by unfold redoE; rw [if_neg (by simp)]; exact he)
theorem ValD.del {D : List E} (h : ValD D) {k : Int} (hr : (rdel D k).1.2 = 0) : ValD (rdel D k).2 := by
  obtain ⟨hk, _, he⟩ := rdel_ok hr
  rw [he]
  exact h.snoc ⟨hk, Nat.zero_le _, ⟨rfl, rfl⟩, fun _ => rfl⟩ (by unfold redoE; rw [if_pos rfl]; exact he)

/-! ### what is whole -/
/-- how many records are whole among the first h bytes -/
def wholeN : List E → Nat → Nat
  | [], _ => 0
  | e :: D, h => if (recE e).length ≤ h then wholeN D (h - (recE e).length) + 1 else 0
theorem wholeN_le : ∀ (D : List E) (h : Nat), wholeN D h ≤ D.length
  | [], _ => Nat.le_refl _
  | e :: D, h => by
    unfold wholeN
    split
    · have := wholeN_le D (h - (recE e).length)
      rw [List.length_cons]
      omega
    · exact Nat.zero_le _
theorem wholeN_cut : ∀ (D : List E) (p : List UInt8) (h : Nat), (10 : UInt8) ∉ p → ∃ q, (bytesL D ++ p).take h = bytesL (D.take (wholeN D h)) ++ q ∧ (10 : UInt8) ∉ q
  | [], p, h, hp => ⟨p.take h, rfl, fun hm => hp (List.mem_of_mem_take hm)⟩
  | e :: D, p, h, hp => by
    unfold wholeN
    split
    · rename_i hl
      obtain ⟨q, hq, hn⟩ := wholeN_cut D p (h - (recE e).length) hp
      refine ⟨q, ?_, hn⟩
      rw [List.take_succ_cons, bytesL_cons, bytesL_cons, List.append_assoc, List.append_assoc, ← hq, List.take_append]
      rw [List.take_of_length_le hl]
    · rename_i hl
      have hlen : h ≤ (recB e.key.toNat e.gone e.text).length := by
        unfold recE at hl
        rw [recL_eq, List.length_append, List.length_singleton] at hl
        omega
      refine ⟨(recB e.key.toNat e.gone e.text).take h, ?_, fun hm => recB_no _ _ _ (List.mem_of_mem_take hm)⟩
      rw [List.take_zero, bytesL_nil, List.nil_append, bytesL_cons, List.append_assoc, List.take_append_of_le_length (by omega)]
      unfold recE
      rw [recL_eq, List.take_append_of_le_length hlen]
theorem wholeN_mark : ∀ (D : List E) (h : Nat), (bytesL (D.take (wholeN D h))).length ≤ h
  | [], _ => Nat.zero_le _
  | e :: D, h => by
    unfold wholeN
    split
    · rename_i hl
      have := wholeN_mark D (h - (recE e).length)
      rw [List.take_succ_cons, bytesL_cons, List.length_append]
      omega
    · exact Nat.zero_le _
theorem wholeN_max : ∀ (D : List E) (h i : Nat), i ≤ D.length → (bytesL (D.take i)).length ≤ h → i ≤ wholeN D h
  | [], _, i, hi, _ => hi
  | e :: D, h, 0, _, _ => Nat.zero_le _
  | e :: D, h, i + 1, hi, hm => by
    rw [List.take_succ_cons, bytesL_cons, List.length_append] at hm
    unfold wholeN
    rw [if_pos (by omega)]
    have := wholeN_max D (h - (recE e).length) i (by rw [List.length_cons] at hi; omega) (by omega)
    omega
theorem bytesL_end : ∀ (D : List E), bytesL D = [] ∨ ∃ l, bytesL D = l ++ [10]
  | [] => .inl rfl
  | e :: D => by
    rcases bytesL_end D with h | ⟨l, h⟩
    · rw [bytesL_cons, h, List.append_nil]
      exact .inr ⟨recB e.key.toNat e.gone e.text, rfl⟩
    · rw [bytesL_cons, h]
      exact .inr ⟨recE e ++ l, by simp⟩
/-- the last newline of whole records with a part behind them -/
theorem last_nl (D : List E) (q : List UInt8) (hq : (10 : UInt8) ∉ q) : Lib.lastIndexByte (mkB (bytesL D ++ q)) 10 + 1 = ((bytesL D).length : Int) := by
  have hg : ∀ j, j < (bytesL D ++ q).length → ((⟨(bytesL D ++ q).toArray⟩ : ByteArray).data[j]!) = (bytesL D ++ q).getD j 0 := fun j hj => by
    show ((bytesL D ++ q).toArray)[j]! = _
    rw [getElem!_pos _ j (by simpa using hj)]
    simp only [List.getElem_toArray]
    rw [List.getD_eq_getElem?_getD, List.getElem?_eq_getElem hj]
    rfl
  have hz : (⟨(bytesL D ++ q).toArray⟩ : ByteArray).size = (bytesL D ++ q).length := by show ((bytesL D ++ q).toArray).size = _; simp
  have hl : (bytesL D ++ q).length = (bytesL D).length + q.length := List.length_append
  have hin : ∀ j, (bytesL D).length ≤ j → j < (bytesL D ++ q).length → (bytesL D ++ q).getD j 0 ≠ 10 := fun j h1 h2 h => by
    rw [List.getD_eq_getElem?_getD, List.getElem?_append_right h1, List.getElem?_eq_getElem (by omega)] at h
    exact hq (h ▸ List.getElem_mem _)
  have hnat : ∀ b : UInt8, ((b.toNat : Int) = 10) ↔ b = 10 := fun b => ⟨fun h => UInt8.toNat_inj.1 (by show b.toNat = 10; omega), fun h => by rw [h]; rfl⟩
  have hmk : mkB (bytesL D ++ q) = ⟨(bytesL D ++ q).toArray⟩ := rfl
  rw [hmk]
  rcases Lib.lastIndexByte_spec ⟨(bytesL D ++ q).toArray⟩ 10 with ⟨h, hno⟩ | ⟨i, hi, h, hc, hno⟩
  · rcases bytesL_end D with he | ⟨l, he⟩
    · rw [h, he]; rfl
    · exfalso
      have hlt : l.length < (bytesL D ++ q).length := by rw [he]; simp
      refine hno l.length (by rw [hz]; exact hlt) ?_
      rw [hg _ hlt, he, hnat]
      simp
  · rw [hz] at hi
    rw [hg _ hi, hnat] at hc
    rcases bytesL_end D with he | ⟨l, he⟩
    · exact absurd hc (hin i (by rw [he]; exact Nat.zero_le _) hi)
    · have h1 : i < (bytesL D).length := by
        rcases Nat.lt_or_ge i (bytesL D).length with h' | h'
        · exact h'
        · exact absurd hc (hin i h' hi)
      have h2 : l.length ≤ i := by
        rcases Nat.lt_or_ge i l.length with h' | h'
        · exfalso
          have hlt : l.length < (bytesL D ++ q).length := by rw [he]; simp
          refine hno l.length h' (by rw [hz]; exact hlt) ?_
          rw [hg _ hlt, he, hnat]
          simp
        · exact h'
      rw [h, he, List.length_append, List.length_singleton]
      rw [he, List.length_append, List.length_singleton] at h1
      omega

/-! ### a log as a value -/
structure LG where
  D : List E
  bs : List UInt8
  safe : Nat
  left : Int
  stopped : Bool
def LG.new : LG := ⟨[], [], 0, -1, false⟩
def LG.fail (G : LG) (n : Int) : LG := { G with left := max (-1) n }
def LG.step (G : LG) : LG := { G with stopped := decide (G.left = 0), left := max (-1) (G.left - 1) }
/-- the first half of a record -/
def halfL (r : List UInt8) : List UInt8 := r.take (r.length / 2)
/-- a deed that the store has done, or not -/
def LG.deed (G : LG) (r : (Int × Int) × List E) (rec : List UInt8) : (Int × Int) × LG :=
  if G.stopped = true then ((0, 6), G)
  else if r.1.2 ≠ 0 then ((0, r.1.2), G)
  else if G.left = 0 then ((0, 6), { G.step with bs := G.bs ++ halfL rec })
  else (r.1, { G.step with D := r.2, bs := G.bs ++ rec })
def LG.put (G : LG) (k : Int) (t : ByteArray) : (Int × Int) × LG := G.deed (rput G.D k t) (recL k.toNat false t)
def LG.del (G : LG) (k : Int) : (Int × Int) × LG := G.deed (rdel G.D k) (recL k.toNat true ⟨#[]⟩)
def LG.sync (G : LG) : Int × LG :=
  if G.stopped = true then (6, G)
  else if G.left = 0 then (6, G.step)
  else (0, { G.step with safe := G.bs.length })
/-- how many bytes are kept -/
def LG.high (G : LG) (keep : Int) : Nat := G.safe + (max 0 (min keep ((G.bs.length : Int) - (G.safe : Int)))).toNat
def LG.crash (G : LG) (keep : Int) : LG := ⟨G.D.take (wholeN G.D (G.high keep)), bytesL (G.D.take (wholeN G.D (G.high keep))), (bytesL (G.D.take (wholeN G.D (G.high keep)))).length, -1, false⟩
/-- what holds of a log at any time -/
structure LG.ok (G : LG) : Prop where
  val : ValD G.D
  bs : ∃ p, G.bs = bytesL G.D ++ p ∧ (10 : UInt8) ∉ p ∧ p.length ≤ 60 ∧ (G.stopped = false → p = [])
  safe : G.safe ≤ G.bs.length
  left : -1 ≤ G.left ∧ G.left ≤ 9223372036854775807
  many : G.D.length ≤ 1000
theorem halfL_no (k : Nat) (g : Bool) (t : ByteArray) : (10 : UInt8) ∉ halfL (recL k g t) := by
  unfold halfL
  rw [recL_eq, List.length_append, List.length_singleton, List.take_append_of_le_length (by have := List.length_pos_iff.2 (recB_ne k g t); omega)]
  exact fun h => recB_no k g t (List.mem_of_mem_take h)
theorem recL_le (k : Nat) (g : Bool) (t : ByteArray) (hk : k < 1000) (ht : t.size ≤ 12) : (recL k g t).length ≤ 56 := by
  rw [recL_eq, List.length_append, List.length_singleton]
  have := recB_len k g t hk
  omega
theorem halfL_le (l : List UInt8) : (halfL l).length ≤ l.length := by unfold halfL; rw [List.length_take]; omega
theorem bytesL_len : ∀ (D : List E), (∀ e ∈ D, DeedE e) → (bytesL D).length ≤ 56 * D.length
  | [], _ => Nat.zero_le _
  | e :: D, h => by
    have h1 := bytesL_len D (fun x hx => h x (by simp [hx]))
    have h2 := h e (by simp)
    have h3 := recL_le e.key.toNat e.gone e.text (by have := h2.key; omega) h2.text
    rw [bytesL_cons, List.length_append, List.length_cons]
    unfold recE
    omega
theorem ValD.each {D : List E} (h : ValD D) : ∀ e ∈ D, DeedE e := fun e he => by
  obtain ⟨A, B, hAB⟩ := List.append_of_mem he
  exact (h A e B hAB).1
theorem LG.ok.len {G : LG} (h : G.ok) : G.bs.length ≤ 57000 := by
  obtain ⟨p, hp, _, hl, _⟩ := h.bs
  have h1 := bytesL_len G.D h.val.each
  have h2 := h.many
  rw [hp, List.length_append]
  omega
theorem LG.new_ok : LG.new.ok := ⟨ValD.nil, ⟨[], rfl, by simp, by simp, fun _ => rfl⟩, Nat.le_refl _, ⟨by decide, by decide⟩, by simp [LG.new]⟩
theorem LG.fail_ok {G : LG} (h : G.ok) {n : Int} (hn : n ≤ 9223372036854775807) : (G.fail n).ok := ⟨h.val, h.bs, h.safe, ⟨by show -1 ≤ max (-1) n; omega, by show max (-1) n ≤ _; omega⟩, h.many⟩
theorem LG.step_left {G : LG} (h : G.ok) : -1 ≤ max (-1) (G.left - 1) ∧ max (-1) (G.left - 1) ≤ 9223372036854775807 := by
  have := h.left
  omega
theorem LG.deed_ok {G : LG} (h : G.ok) {r : (Int × Int) × List E} {k : Nat} {g : Bool} {t : ByteArray} (hk : r.1.2 = 0 → k < 8 ∧ t.size ≤ 12 ∧ ValD r.2 ∧ G.D.length ≠ 1000 ∧ ∃ e, r.2 = G.D ++ [e] ∧ recE e = recL k g t) : (G.deed r (recL k g t)).2.ok := by
  unfold LG.deed
  split
  · exact h
  · rename_i hs
    have hs' : G.stopped = false := by simpa using hs
    obtain ⟨p, hp, hpn, hpl, hp0⟩ := h.bs
    have hpe := hp0 hs'
    subst hpe
    rw [List.append_nil] at hp
    split
    · exact h
    · rename_i hr
      obtain ⟨h1, h2, h3, h4, e, h5, h6⟩ := hk (Classical.not_not.1 hr)
      have hle := recL_le k g t (by omega) h2
      split
      · rename_i hl
        refine ⟨h.val, ⟨halfL (recL k g t), by show G.bs ++ halfL (recL k g t) = bytesL G.D ++ halfL (recL k g t); rw [hp], halfL_no _ _ _, ?_, fun hx => ?_⟩, ?_, LG.step_left h, h.many⟩
        · have := halfL_le (recL k g t); omega
        · simp [LG.step, hl] at hx
        · show G.safe ≤ (G.bs ++ halfL (recL k g t)).length
          have := h.safe
          rw [List.length_append]; omega
      · refine ⟨h3, ⟨[], by show G.bs ++ recL k g t = bytesL r.2 ++ []; rw [h5, bytesL_snoc, h6, hp, List.append_nil], by simp, by simp, fun _ => rfl⟩, ?_, LG.step_left h, ?_⟩
        · show G.safe ≤ (G.bs ++ recL k g t).length
          have := h.safe
          rw [List.length_append]; omega
        · show r.2.length ≤ 1000
          have := h.many
          rw [h5, List.length_append, List.length_singleton]; omega
theorem LG.put_ok {G : LG} (h : G.ok) (k : Int) (t : ByteArray) : (G.put k t).2.ok := by
  refine LG.deed_ok h (fun hr => ?_)
  obtain ⟨h1, h2, h3, h4⟩ := rput_ok hr
  exact ⟨by omega, h2, h.val.put hr, h3, _, by rw [h4], rfl⟩
theorem LG.del_ok {G : LG} (h : G.ok) (k : Int) : (G.del k).2.ok := by
  refine LG.deed_ok h (fun hr => ?_)
  obtain ⟨h1, h3, h4⟩ := rdel_ok hr
  exact ⟨by omega, by decide, h.val.del hr, h3, _, by rw [h4], rfl⟩
theorem LG.sync_ok {G : LG} (h : G.ok) : G.sync.2.ok := by
  unfold LG.sync
  split
  · exact h
  · rename_i hs
    have hs' : G.stopped = false := by simpa using hs
    obtain ⟨p, hp, hpn, hpl, hp0⟩ := h.bs
    have hpe := hp0 hs'
    subst hpe
    split
    · exact ⟨h.val, ⟨[], hp, by simp, by simp, fun _ => rfl⟩, h.safe, LG.step_left h, h.many⟩
    · exact ⟨h.val, ⟨[], hp, by simp, by simp, fun _ => rfl⟩, Nat.le_refl _, LG.step_left h, h.many⟩
theorem LG.crash_ok {G : LG} (h : G.ok) (keep : Int) : (G.crash keep).ok :=
  ⟨h.val.take _, ⟨[], by simp [LG.crash], by simp, by simp, fun _ => rfl⟩, Nat.le_refl _, ⟨by show (-1 : Int) ≤ -1; decide, by show (-1 : Int) ≤ _; decide⟩, by
    show (G.D.take _).length ≤ 1000
    have := h.many
    rw [List.length_take]
    omega⟩
theorem LG.high_le {G : LG} (h : G.ok) (keep : Int) : G.high keep ≤ G.bs.length := by
  have := h.safe
  unfold LG.high
  omega
/-- what is cut at the last newline of the bytes that are kept -/
theorem LG.cut {G : LG} (h : G.ok) (keep : Int) : ∃ q, G.bs.take (G.high keep) = (G.crash keep).bs ++ q ∧ (10 : UInt8) ∉ q ∧ Lib.lastIndexByte (mkB (G.bs.take (G.high keep))) 10 + 1 = ((G.crash keep).bs.length : Int) := by
  obtain ⟨p, hp, hpn, _, _⟩ := h.bs
  obtain ⟨q, hq, hqn⟩ := wholeN_cut G.D p (G.high keep) hpn
  rw [← hp] at hq
  exact ⟨q, hq, hqn, by rw [hq]; exact last_nl _ _ hqn⟩
end Go.Proofs.YtljkclebcoanaaaGreatDoor
