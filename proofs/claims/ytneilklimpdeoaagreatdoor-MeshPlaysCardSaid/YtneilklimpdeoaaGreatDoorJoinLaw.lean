/-
  CONTRACT of entry.True. CONDITIONS: none.
  PLAIN LAWS of entries: no program in sight. CONDITIONS: none.
  PLAIN LAWS of joining entries: either way round, as often as one likes, in any order. No program in sight. CONDITIONS: none.
-/
import Derived.Test.YtneilklimpdeoaaGreatDoorJoin
import Derived.Test.YtneilklimpdeoaaGreatDoorEntry
namespace Go.Proofs.YtneilklimpdeoaaGreatDoor
open Go.RowKit
open Go.ChangeShapes Go.WideShapes Go.ChangeAt

def trueR (e : E) (n : Int) : Bool × Int := if chk e = 0 then (if seqB n = true then (decide (e.ver ≤ n) && decide (n ≤ e.asof), 0) else (false, 1)) else (false, chk e)

end Go.Proofs.YtneilklimpdeoaaGreatDoor
namespace Go.Proofs.YtneilklimpdeoaaGreatDoor
open Go.RowKit

theorem chk_zero {e : E} : chk e = 0 ↔ keyB e.key = true ∧ seqB e.ver = true ∧ seqB e.asof = true ∧ e.ver ≤ e.asof ∧ e.text.size ≤ 12 ∧ (e.gone = true → e.text.toList = []) := by
  unfold chk
  constructor
  · intro h
    split at h
    · cases h
    · rename_i h1
      split at h
      · cases h
      · split at h
        · cases h
        · rename_i h2 h3
          simp only [Bool.or_eq_true, Bool.not_eq_true', not_or, Bool.not_eq_false, decide_eq_true_eq, Bool.and_eq_true, not_and] at h1 h3
          refine ⟨h1.1.1.1, h1.1.1.2, h1.1.2, by omega, by omega, fun hg => ?_⟩
          have := h3 hg
          simpa using this
  · rintro ⟨h1, h2, h3, h4, h5, h6⟩
    rw [if_neg, if_neg (by omega), if_neg]
    · simp only [Bool.and_eq_true, not_and]
      intro hg
      simp [h6 hg]
    · simp only [h1, h2, h3]
      simp
      omega

theorem chk_is1 {e : E} (h : keyB e.key = false ∨ (e.ver < 0 ∨ 1000 < e.ver ∨ e.asof < 0 ∨ 1000 < e.asof ∨ e.asof < e.ver)) : chk e = 1 := by
  unfold chk
  rw [if_pos]
  simp only [Bool.or_eq_true, Bool.not_eq_true', seqB_false, decide_eq_true_eq]
  rcases h with h | h
  · exact .inl (.inl (.inl h))
  · omega
theorem chk_first {e : E} (h1 : keyB e.key = true) (h2 : 0 ≤ e.ver ∧ e.ver ≤ e.asof ∧ e.asof ≤ 1000) : (!keyB e.key || !seqB e.ver || !seqB e.asof || decide (e.asof < e.ver)) = false := by
  have a1 : seqB e.ver = true := seqB_true.2 (by omega)
  have a2 : seqB e.asof = true := seqB_true.2 (by omega)
  simp [h1, a1, a2]
  omega
theorem chk_is4 {e : E} (h1 : keyB e.key = true) (h2 : 0 ≤ e.ver ∧ e.ver ≤ e.asof ∧ e.asof ≤ 1000) (h3 : 12 < e.text.size) : chk e = 4 := by
  unfold chk
  rw [chk_first h1 h2, if_neg (by simp), if_pos (by omega)]
theorem chk_is3 {e : E} (h1 : keyB e.key = true) (h2 : 0 ≤ e.ver ∧ e.ver ≤ e.asof ∧ e.asof ≤ 1000) (h3 : e.text.size ≤ 12) (h4 : e.gone = true) (h5 : (!e.text.toList.isEmpty) = true) : chk e = 3 := by
  unfold chk
  rw [chk_first h1 h2, if_neg (by simp), if_neg (by omega), if_pos (by simp only [h4, h5]; rfl)]
theorem chk_is0 {e : E} (h1 : keyB e.key = true) (h2 : 0 ≤ e.ver ∧ e.ver ≤ e.asof ∧ e.asof ≤ 1000) (h3 : e.text.size ≤ 12) (h4 : ¬ e.gone = true ∨ (!e.text.toList.isEmpty) = false) : chk e = 0 := by
  unfold chk
  rw [chk_first h1 h2, if_neg (by simp), if_neg (by omega), if_neg]
  rcases h4 with h4 | h4
  · simp [h4]
  · simp only [h4]; simp
theorem ret_int {k : IntKind} {a b : Int} (h : a = b) : Ending.returned (.int k a) = .returned (.int k b) := by rw [h]
theorem ret_bool {a b : Bool} (h : a = b) : Ending.returned (.bool a) = .returned (.bool b) := by rw [h]

theorem chk2_self (e : E) : chk2 e e = chk e := by
  unfold chk2
  split
  · rfl
  · rfl
theorem chk2_zero {a b : E} : chk2 a b = 0 ↔ chk a = 0 ∧ chk b = 0 := by
  unfold chk2
  split
  · simp [*]
  · simp [*]

theorem joined_self (e : E) : joined e e = (e, 0) := by
  simp [joined, joinIn]
theorem joinR_self {e : E} (h : chk e = 0) : joinR e e = (e, 0) := by
  rw [joinR, if_pos (by rw [chk2_self]; exact h), if_pos rfl, joined_self]
theorem joinR_bad {e : E} (h : chk e ≠ 0) : joinR e e = (E.zero, chk e) := by
  rw [joinR, if_neg (by rw [chk2_self]; exact h), chk2_self]
theorem trueR_ver {e : E} (h : chk e = 0) : trueR e e.ver = (true, 0) := by
  have h' := chk_zero.1 h
  simp [trueR, h, h'.2.1, h'.2.2.2.1]
theorem trueR_asof {e : E} (h : chk e = 0) : trueR e e.asof = (true, 0) := by
  have h' := chk_zero.1 h
  simp [trueR, h, h'.2.2.1, h'.2.2.2.1]
end Go.Proofs.YtneilklimpdeoaaGreatDoor
namespace Go.Proofs.YtneilklimpdeoaaGreatDoor
open Go.RowKit

theorem bytes_inj {a b : ByteArray} (h : a.toList = b.toList) : a = b := by
  rw [ByteArray.toList_eq, ByteArray.toList_eq] at h
  obtain ⟨⟨x⟩⟩ := a
  obtain ⟨⟨y⟩⟩ := b
  simp only at h
  rw [h]

/-- what two entries of one key come to, where they go together -/
def Jn (a b x : E) : Prop :=
  (a.ver = b.ver ∧ a.gone = b.gone ∧ a.text = b.text ∧ x = ⟨b.key, b.ver, max a.asof b.asof, b.gone, b.text⟩) ∨ (a.ver < b.ver ∧ a.asof < b.ver ∧ x = b) ∨ (b.ver < a.ver ∧ b.asof < a.ver ∧ x = a)

theorem joinIn_ok {p q x : E} (hv : p.ver ≤ q.ver) : joinIn p q = (x, 0) ↔ (p.ver = q.ver ∧ p.gone = q.gone ∧ p.text = q.text ∧ x = ⟨q.key, q.ver, max p.asof q.asof, q.gone, q.text⟩) ∨ (p.ver < q.ver ∧ p.asof < q.ver ∧ x = q) := by
  unfold joinIn
  by_cases h : p.ver = q.ver
  · rw [if_pos h]
    by_cases hc : (!(p.gone == q.gone) || !(p.text.toList == q.text.toList)) = true
    · rw [if_pos hc]
      simp only [Bool.or_eq_true, Bool.not_eq_true', beq_eq_false_iff_ne, ne_eq] at hc
      constructor
      · intro he
        simp at he
      · rintro (⟨_, hg, ht, _⟩ | ⟨h1, _⟩)
        · rcases hc with hc | hc
          · exact absurd hg hc
          · exact absurd (by rw [ht]) hc
        · omega
    · rw [if_neg hc]
      simp only [Bool.or_eq_true, Bool.not_eq_true', not_or, Bool.not_eq_false, beq_iff_eq] at hc
      constructor
      · intro he
        simp only [Prod.mk.injEq, and_true] at he
        exact .inl ⟨h, hc.1, bytes_inj hc.2, he.symm⟩
      · rintro (⟨_, _, _, rfl⟩ | ⟨h1, _⟩)
        · rfl
        · omega
  · rw [if_neg h]
    by_cases h2 : q.ver ≤ p.asof
    · rw [if_pos h2]
      constructor
      · intro he
        simp at he
      · rintro (⟨h1, _⟩ | ⟨_, h1, _⟩)
        · exact absurd h1 h
        · omega
    · rw [if_neg h2]
      constructor
      · intro he
        simp only [Prod.mk.injEq, and_true] at he
        exact .inr ⟨by omega, by omega, he.symm⟩
      · rintro (⟨h1, _⟩ | ⟨_, _, rfl⟩)
        · exact absurd h1 h
        · rfl

theorem joined_ok {a b x : E} (_hk : a.key = b.key) : joined a b = (x, 0) ↔ Jn a b x := by
  unfold joined Jn
  by_cases h : b.ver < a.ver
  · rw [if_pos h, joinIn_ok (by omega)]
    constructor
    · rintro (⟨h1, _⟩ | h1)
      · omega
      · exact .inr (.inr h1)
    · rintro (⟨h1, _⟩ | ⟨h1, _⟩ | h1)
      · omega
      · omega
      · exact .inr h1
  · rw [if_neg h, joinIn_ok (by omega)]
    constructor
    · rintro (h1 | h1)
      · exact .inl h1
      · exact .inr (.inl h1)
    · rintro (h1 | h1 | ⟨h1, _⟩)
      · exact .inl h1
      · exact .inr h1
      · omega

theorem joinR_ok {a b x : E} : joinR a b = (x, 0) ↔ chk a = 0 ∧ chk b = 0 ∧ a.key = b.key ∧ Jn a b x := by
  unfold joinR
  by_cases h2 : chk2 a b = 0
  · rw [if_pos h2]
    have h := chk2_zero.1 h2
    by_cases hk : a.key = b.key
    · rw [if_pos hk, joined_ok hk]
      exact ⟨fun hj => ⟨h.1, h.2, hk, hj⟩, fun hj => hj.2.2.2⟩
    · rw [if_neg hk]
      constructor
      · intro he
        simp at he
      · intro hj
        exact absurd hj.2.2.1 hk
  · rw [if_neg h2]
    constructor
    · intro he
      simp only [Prod.mk.injEq] at he
      exact absurd he.2 h2
    · intro hj
      exact absurd (chk2_zero.2 ⟨hj.1, hj.2.1⟩) h2

/-- what an entry that is right and its time say, as numbers -/
theorem chk_facts {e : E} (h : chk e = 0) : 0 ≤ e.ver ∧ e.ver ≤ e.asof ∧ e.asof ≤ 1000 := by
  obtain ⟨_, h2, h3, h4, _⟩ := chk_zero.1 h
  rw [seqB_true] at h2 h3
  omega
theorem chk_asof {e : E} {n : Int} (h : chk e = 0) (h1 : e.ver ≤ n) (h2 : n ≤ 1000) : chk { e with asof := n } = 0 := by
  obtain ⟨a1, a2, a3, a4, a5, a6⟩ := chk_zero.1 h
  have h0 := (seqB_true.1 a2).1
  exact chk_zero.2 ⟨a1, a2, seqB_true.2 ⟨Int.le_trans h0 h1, h2⟩, h1, a5, a6⟩

theorem zero_size : E.zero.text.size ≤ maxLen := by
  show (0 : Nat) ≤ maxLen
  exact Nat.zero_le _
theorem joinIn_size {a b : E} (hb : b.text.size ≤ maxLen) : (joinIn a b).1.text.size ≤ maxLen := by
  unfold joinIn
  repeat' split
  all_goals first | exact hb | exact zero_size
theorem joined_size {a b : E} (ha : a.text.size ≤ maxLen) (hb : b.text.size ≤ maxLen) : (joined a b).1.text.size ≤ maxLen := by
  unfold joined
  split
  · exact joinIn_size ha
  · exact joinIn_size hb
theorem joinR_size {a b : E} (ha : a.text.size ≤ maxLen) (hb : b.text.size ≤ maxLen) : (joinR a b).1.text.size ≤ maxLen := by
  unfold joinR
  repeat' split
  all_goals first | exact joined_size ha hb | exact zero_size

theorem Jn.key {a b x : E} (h : Jn a b x) (hk : a.key = b.key) : x.key = b.key := by
  rcases h with ⟨_, _, _, rfl⟩ | ⟨_, _, rfl⟩ | ⟨_, _, rfl⟩
  · rfl
  · rfl
  · exact hk
theorem Jn.right {a b x : E} (h : Jn a b x) (ha : chk a = 0) (hb : chk b = 0) : chk x = 0 := by
  have fa := chk_facts ha
  have fb := chk_facts hb
  rcases h with ⟨_, _, _, rfl⟩ | ⟨_, _, rfl⟩ | ⟨_, _, rfl⟩
  · exact chk_asof hb (by omega) (by omega)
  · exact hb
  · exact ha
theorem Jn.comm {a b x : E} (h : Jn a b x) (hk : a.key = b.key) : Jn b a x := by
  obtain ⟨k, v, s, g, t⟩ := a
  obtain ⟨k', v', s', g', t'⟩ := b
  simp only [Jn] at h hk ⊢
  subst hk
  rcases h with ⟨rfl, rfl, rfl, rfl⟩ | ⟨h1, h2, rfl⟩ | ⟨h1, h2, rfl⟩
  · exact .inl ⟨rfl, rfl, rfl, by simp only [E.mk.injEq, true_and, and_true]; omega⟩
  · exact .inr (.inr ⟨h1, h2, rfl⟩)
  · exact .inr (.inl ⟨h1, h2, rfl⟩)
theorem Jn.left {a b x : E} (h : Jn a b x) (hk : a.key = b.key) : Jn x a x := by
  obtain ⟨k, v, s, g, t⟩ := a
  obtain ⟨k', v', s', g', t'⟩ := b
  simp only [Jn] at h hk ⊢
  subst hk
  rcases h with ⟨rfl, rfl, rfl, rfl⟩ | ⟨h1, h2, rfl⟩ | ⟨h1, h2, rfl⟩
  · exact .inl ⟨rfl, rfl, rfl, by simp only [E.mk.injEq, true_and, and_true]; omega⟩
  · exact .inr (.inr ⟨h1, h2, trivial⟩)
  · exact .inl ⟨rfl, rfl, rfl, by simp only [E.mk.injEq, true_and, and_true]; omega⟩
theorem Jn.again {a b x : E} (h : Jn a b x) (hk : a.key = b.key) : Jn x b x := (h.comm hk).left hk.symm
theorem Jn.newer {a b x : E} (h : Jn a b x) (ha : chk a = 0) (hb : chk b = 0) : a.ver ≤ x.ver ∧ b.ver ≤ x.ver ∧ a.asof ≤ x.asof ∧ b.asof ≤ x.asof := by
  have fa := chk_facts ha
  have fb := chk_facts hb
  rcases h with ⟨h1, _, _, rfl⟩ | ⟨h1, h2, rfl⟩ | ⟨h1, h2, rfl⟩
  · simp only; omega
  · omega
  · omega
theorem Jn.assoc {a b c x p y z : E} (h1 : Jn a b x) (h2 : Jn x c p) (h3 : Jn b c y) (h4 : Jn a c z) (ha : chk a = 0) (hb : chk b = 0) (hc : chk c = 0) (hk : a.key = b.key) (hk' : b.key = c.key) : Jn a y p := by
  have fa := chk_facts ha
  have fb := chk_facts hb
  have fc := chk_facts hc
  clear ha hb hc
  obtain ⟨k, v, s, g, t⟩ := a
  obtain ⟨k', v', s', g', t'⟩ := b
  obtain ⟨k'', v'', s'', g'', t''⟩ := c
  simp only at hk hk' fa fb fc
  subst hk hk'
  simp only [Jn] at h1 h3 h4
  rcases h1 with ⟨e1, e2, e3, rfl⟩ | ⟨e1, e2, rfl⟩ | ⟨e1, e2, rfl⟩ <;>
  rcases h3 with ⟨i1, i2, i3, rfl⟩ | ⟨i1, i2, rfl⟩ | ⟨i1, i2, rfl⟩ <;>
  simp only [Jn] at h2 ⊢ <;>
  rcases h2 with ⟨j1, j2, j3, rfl⟩ | ⟨j1, j2, rfl⟩ | ⟨j1, j2, rfl⟩
  all_goals first
    | (exfalso; omega)
    | exact .inl ⟨‹_›, ‹_›, ‹_›, rfl⟩
    | exact .inl ⟨by omega, by simp_all, by simp_all, by simp only [E.mk.injEq, true_and, and_true]; refine ⟨?_, ?_⟩ <;> first | omega | (refine ⟨?_, ?_⟩ <;> first | omega | simp_all)⟩
    | exact .inl ⟨by omega, by simp_all, by simp_all, by simp only [E.mk.injEq, true_and, and_true]; omega⟩
    | exact .inl ⟨by omega, by simp_all, by simp_all, by simp_all; omega⟩
    | exact .inr (.inl ⟨by omega, by omega, by simp_all⟩)
    | exact .inr (.inr ⟨by omega, by omega, by simp_all⟩)
    | exact .inr (.inr ⟨by omega, by omega, by simp only [E.mk.injEq, true_and, and_true]; omega⟩)
    | (exfalso; rcases h4 with ⟨l1, l2, l3, l4⟩ | ⟨l1, l2, l3⟩ | ⟨l1, l2, l3⟩ <;> omega)
end Go.Proofs.YtneilklimpdeoaaGreatDoor
