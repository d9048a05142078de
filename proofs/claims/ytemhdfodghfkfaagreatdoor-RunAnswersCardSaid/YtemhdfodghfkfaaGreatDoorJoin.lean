/-
  CONTRACT of entry.Check. CONDITIONS: none.
  CONTRACTS of entry.Joined, entry.checks, entry.Join, entry.True. CONDITIONS: none.
  CONTRACTS of entry.checks, entry.Join, entry.True. CONDITIONS: none.
  CONTRACTS of entry.Join. CONDITIONS: none.
  CONTRACT of entry.True. CONDITIONS: none.
  PLAIN LAWS of entries: no program in sight. CONDITIONS: none.
  PLAIN LAWS of joining entries: either way round, as often as one likes, in any order. No program in sight. CONDITIONS: none.
  CONTRACTS of the references mereref1.Key, mereref1.Entry, mereref1.Join: the same plain functions as the program's. CONDITIONS: none.
-/
import Derived.Test.YtemhdfodghfkfaaGreatDoorKit
namespace Go.Proofs.YtemhdfodghfkfaaGreatDoor
open Go.RowKit
open Go.ChangeShapes Go.WideShapes Go.ChangeAt

def chk (e : E) : Int :=
  if (!keyB e.key || !seqB e.ver || !seqB e.asof || decide (e.asof < e.ver)) = true then 1
  else if (12 : Int) < (e.text.size : Int) then 4
  else if (e.gone && !e.text.toList.isEmpty) = true then 3
  else 0

set_option maxHeartbeats 1000000 in
theorem check_any (k v a : Int) (g : Bool) (t : ByteArray) (w : World) (ht : t.size ≤ maxLen) :
    Calls Tryz.prog 185 #[.agg #[.int .i64 k, .int .i64 v, .int .i64 a, .bool g, .string t]] w fun e w' =>
      e = .returned (errV (chk ⟨k, v, a, g, t⟩)) ∧ Below w.heap.size w w' := by
  unfold maxLen at ht
  go_enter Tryz.func185, Tryz.ntmps185
  go_wp2_with (first | (go_at_call 134; refine (key_any _ _).mono ?_; rintro e w' ⟨rfl, rfl⟩) | (go_at_call 191; refine (seq_any _ _).mono ?_; rintro e w' ⟨rfl, rfl⟩))
  all_goals
    go_ret
    refine ⟨?_, (Below.refl _ _).alloc (Nat.le_refl _) _⟩
    simp [chk, errV, *]
    all_goals (simp (disch := omega) only [if_neg])
    all_goals first | rfl | decide
end Go.Proofs.YtemhdfodghfkfaaGreatDoor
namespace Go.Proofs.YtemhdfodghfkfaaGreatDoor
open Go.RowKit
open Go.ChangeShapes Go.WideShapes Go.ChangeAt

def E.val (e : E) : Value := .agg #[.int .i64 e.key, .int .i64 e.ver, .int .i64 e.asof, .bool e.gone, .string e.text]
def E.zero : E := ⟨0, 0, 0, false, ⟨#[]⟩⟩

def joinIn (p q : E) : E × Int :=
  if p.ver = q.ver then
    if (!(p.gone == q.gone) || !(p.text.toList == q.text.toList)) = true then (E.zero, 7) else ({ q with asof := max p.asof q.asof }, 0)
  else if q.ver ≤ p.asof then (E.zero, 7) else (q, 0)
def joined (a b : E) : E × Int := if b.ver < a.ver then joinIn b a else joinIn a b

set_option maxHeartbeats 2000000 in
theorem joined_any (k v a : Int) (g : Bool) (t : ByteArray) (k' v' a' : Int) (g' : Bool) (t' : ByteArray) (w : World) :
    Calls Tryz.prog 173 #[.agg #[.int .i64 k, .int .i64 v, .int .i64 a, .bool g, .string t], .agg #[.int .i64 k', .int .i64 v', .int .i64 a', .bool g', .string t']] w fun e w' =>
      e = .returned (.tuple #[(joined ⟨k, v, a, g, t⟩ ⟨k', v', a', g', t'⟩).1.val, errV (joined ⟨k, v, a, g, t⟩ ⟨k', v', a', g', t'⟩).2]) ∧ Below w.heap.size w w' := by
  generalize hr : joined ⟨k, v, a, g, t⟩ ⟨k', v', a', g', t'⟩ = r
  have Hr := hid hr
  clear hr
  go_enter Tryz.func173, Tryz.ntmps173
  go_wp2
  all_goals
    refine bodyPost_ret (v := .tuple #[r.1.val, errV r.2]) ?_ rfl ⟨rfl, ?_⟩
    · rw [← Hr.out]
      simp [results, Tryz.results173, go_sem, joined, joinIn, E.val, E.zero, errV, *]
      all_goals first | omega | (simp (disch := omega) only [if_pos, if_neg]; done) | (simp (disch := omega) only [if_pos, if_neg]; simp; done)
    · (repeat (first | with_reducible exact Below.refl _ _ | with_reducible assumption | (with_reducible refine Below.drew ?_) | (with_reducible refine Below.manyDrew ?_ _) | ((with_reducible refine Below.alloc ?_ ?_ _); rotate_left; (focus (first | omega | (dsimp only; omega) | (simp; done) | (simp; omega)))) | ((with_reducible refine Below.setCell ?_ ?_ _); rotate_left; (focus (first | omega | (dsimp only; omega) | (simp; done) | (simp; omega)))) | ((with_reducible refine Below.step ?_ (by assumption) ?_); rotate_left; (focus (first | omega | (dsimp only; omega) | (simp; done) | (simp; omega))))))

end Go.Proofs.YtemhdfodghfkfaaGreatDoor
namespace Go.Proofs.YtemhdfodghfkfaaGreatDoor
open Go.RowKit
open Go.ChangeShapes Go.WideShapes Go.ChangeAt

def chk2 (a b : E) : Int := if chk a = 0 then chk b else chk a

end Go.Proofs.YtemhdfodghfkfaaGreatDoor
namespace Go.Proofs.YtemhdfodghfkfaaGreatDoor
open Go.RowKit
open Go.ChangeShapes Go.WideShapes Go.ChangeAt

def joinR (a b : E) : E × Int := if chk2 a b = 0 then (if a.key = b.key then joined a b else (E.zero, 3)) else (E.zero, chk2 a b)

end Go.Proofs.YtemhdfodghfkfaaGreatDoor
namespace Go.Proofs.YtemhdfodghfkfaaGreatDoor
open Go.RowKit
open Go.ChangeShapes Go.WideShapes Go.ChangeAt

def trueR (e : E) (n : Int) : Bool × Int := if chk e = 0 then (if seqB n = true then (decide (e.ver ≤ n) && decide (n ≤ e.asof), 0) else (false, 1)) else (false, chk e)

end Go.Proofs.YtemhdfodghfkfaaGreatDoor
namespace Go.Proofs.YtemhdfodghfkfaaGreatDoor
open Go.RowKit

theorem chk_zero {e : E} : chk e = 0 ↔ keyB e.key = true ∧ seqB e.ver = true ∧ seqB e.asof = true ∧ e.ver ≤ e.asof ∧ e.text.size ≤ 12 ∧ (e.gone = true → e.text.toList = []) := by
  unfold chk
  constructor
  · intro h
    split at h
    · cases h
    · rename_i h1
      split at h
      · cases h
      · split at h
        · cases h
        · rename_i h2 h3
          simp only [Bool.or_eq_true, Bool.not_eq_true', not_or, Bool.not_eq_false, decide_eq_true_eq, Bool.and_eq_true, not_and] at h1 h3
          refine ⟨h1.1.1.1, h1.1.1.2, h1.1.2, by omega, by omega, fun hg => ?_⟩
          have := h3 hg
          simpa using this
  · rintro ⟨h1, h2, h3, h4, h5, h6⟩
    rw [if_neg, if_neg (by omega), if_neg]
    · simp only [Bool.and_eq_true, not_and]
      intro hg
      simp [h6 hg]
    · simp only [h1, h2, h3]
      simp
      omega

theorem chk_is1 {e : E} (h : keyB e.key = false ∨ (e.ver < 0 ∨ 1000 < e.ver ∨ e.asof < 0 ∨ 1000 < e.asof ∨ e.asof < e.ver)) : chk e = 1 := by
  unfold chk
  rw [if_pos]
  simp only [Bool.or_eq_true, Bool.not_eq_true', seqB_false, decide_eq_true_eq]
  rcases h with h | h
  · exact .inl (.inl (.inl h))
  · omega
theorem chk_first {e : E} (h1 : keyB e.key = true) (h2 : 0 ≤ e.ver ∧ e.ver ≤ e.asof ∧ e.asof ≤ 1000) : (!keyB e.key || !seqB e.ver || !seqB e.asof || decide (e.asof < e.ver)) = false := by
  have a1 : seqB e.ver = true := seqB_true.2 (by omega)
  have a2 : seqB e.asof = true := seqB_true.2 (by omega)
  simp [h1, a1, a2]
  omega
theorem chk_is4 {e : E} (h1 : keyB e.key = true) (h2 : 0 ≤ e.ver ∧ e.ver ≤ e.asof ∧ e.asof ≤ 1000) (h3 : 12 < e.text.size) : chk e = 4 := by
  unfold chk
  rw [chk_first h1 h2, if_neg (by simp), if_pos (by omega)]
theorem chk_is3 {e : E} (h1 : keyB e.key = true) (h2 : 0 ≤ e.ver ∧ e.ver ≤ e.asof ∧ e.asof ≤ 1000) (h3 : e.text.size ≤ 12) (h4 : e.gone = true) (h5 : (!e.text.toList.isEmpty) = true) : chk e = 3 := by
  unfold chk
  rw [chk_first h1 h2, if_neg (by simp), if_neg (by omega), if_pos (by simp only [h4, h5]; rfl)]
theorem chk_is0 {e : E} (h1 : keyB e.key = true) (h2 : 0 ≤ e.ver ∧ e.ver ≤ e.asof ∧ e.asof ≤ 1000) (h3 : e.text.size ≤ 12) (h4 : ¬ e.gone = true ∨ (!e.text.toList.isEmpty) = false) : chk e = 0 := by
  unfold chk
  rw [chk_first h1 h2, if_neg (by simp), if_neg (by omega), if_neg]
  rcases h4 with h4 | h4
  · simp [h4]
  · simp only [h4]; simp
theorem ret_int {k : IntKind} {a b : Int} (h : a = b) : Ending.returned (.int k a) = .returned (.int k b) := by rw [h]
theorem ret_bool {a b : Bool} (h : a = b) : Ending.returned (.bool a) = .returned (.bool b) := by rw [h]

theorem chk2_self (e : E) : chk2 e e = chk e := by
  unfold chk2
  split
  · rfl
  · rfl
theorem chk2_zero {a b : E} : chk2 a b = 0 ↔ chk a = 0 ∧ chk b = 0 := by
  unfold chk2
  split
  · simp [*]
  · simp [*]

theorem joined_self (e : E) : joined e e = (e, 0) := by
  simp [joined, joinIn]
theorem joinR_self {e : E} (h : chk e = 0) : joinR e e = (e, 0) := by
  rw [joinR, if_pos (by rw [chk2_self]; exact h), if_pos rfl, joined_self]
theorem joinR_bad {e : E} (h : chk e ≠ 0) : joinR e e = (E.zero, chk e) := by
  rw [joinR, if_neg (by rw [chk2_self]; exact h), chk2_self]
theorem trueR_ver {e : E} (h : chk e = 0) : trueR e e.ver = (true, 0) := by
  have h' := chk_zero.1 h
  simp [trueR, h, h'.2.1, h'.2.2.2.1]
theorem trueR_asof {e : E} (h : chk e = 0) : trueR e e.asof = (true, 0) := by
  have h' := chk_zero.1 h
  simp [trueR, h, h'.2.2.1, h'.2.2.2.1]
end Go.Proofs.YtemhdfodghfkfaaGreatDoor
namespace Go.Proofs.YtemhdfodghfkfaaGreatDoor
open Go.RowKit

theorem bytes_inj {a b : ByteArray} (h : a.toList = b.toList) : a = b := by
  rw [ByteArray.toList_eq, ByteArray.toList_eq] at h
  obtain ⟨⟨x⟩⟩ := a
  obtain ⟨⟨y⟩⟩ := b
  simp only at h
  rw [h]

/-- what two entries of one key come to, where they go together -/
def Jn (a b x : E) : Prop :=
  (a.ver = b.ver ∧ a.gone = b.gone ∧ a.text = b.text ∧ x = ⟨b.key, b.ver, max a.asof b.asof, b.gone, b.text⟩) ∨ (a.ver < b.ver ∧ a.asof < b.ver ∧ x = b) ∨ (b.ver < a.ver ∧ b.asof < a.ver ∧ x = a)

theorem joinIn_ok {p q x : E} (hv : p.ver ≤ q.ver) : joinIn p q = (x, 0) ↔ (p.ver = q.ver ∧ p.gone = q.gone ∧ p.text = q.text ∧ x = ⟨q.key, q.ver, max p.asof q.asof, q.gone, q.text⟩) ∨ (p.ver < q.ver ∧ p.asof < q.ver ∧ x = q) := by
  unfold joinIn
  by_cases h : p.ver = q.ver
  · rw [if_pos h]
    by_cases hc : (!(p.gone == q.gone) || !(p.text.toList == q.text.toList)) = true
    · rw [if_pos hc]
      simp only [Bool.or_eq_true, Bool.not_eq_true', beq_eq_false_iff_ne, ne_eq] at hc
      constructor
      · intro he
        simp at he
      · rintro (⟨_, hg, ht, _⟩ | ⟨h1, _⟩)
        · rcases hc with hc | hc
          · exact absurd hg hc
          · exact absurd (by rw [ht]) hc
        · omega
    · rw [if_neg hc]
      simp only [Bool.or_eq_true, Bool.not_eq_true', not_or, Bool.not_eq_false, beq_iff_eq] at hc
      constructor
      · intro he
        simp only [Prod.mk.injEq, and_true] at he
        exact .inl ⟨h, hc.1, bytes_inj hc.2, he.symm⟩
      · rintro (⟨_, _, _, rfl⟩ | ⟨h1, _⟩)
        · rfl
        · omega
  · rw [if_neg h]
    by_cases h2 : q.ver ≤ p.asof
    · rw [if_pos h2]
      constructor
      · intro he
        simp at he
      · rintro (⟨h1, _⟩ | ⟨_, h1, _⟩)
        · exact absurd h1 h
        · omega
    · rw [if_neg h2]
      constructor
      · intro he
        simp only [Prod.mk.injEq, and_true] at he
        exact .inr ⟨by omega, by omega, he.symm⟩
      · rintro (⟨h1, _⟩ | ⟨_, _, rfl⟩)
        · exact absurd h1 h
        · rfl

theorem joined_ok {a b x : E} (_hk : a.key = b.key) : joined a b = (x, 0) ↔ Jn a b x := by
  unfold joined Jn
  by_cases h : b.ver < a.ver
  · rw [if_pos h, joinIn_ok (by omega)]
    constructor
    · rintro (⟨h1, _⟩ | h1)
      · omega
      · exact .inr (.inr h1)
    · rintro (⟨h1, _⟩ | ⟨h1, _⟩ | h1)
      · omega
      · omega
      · exact .inr h1
  · rw [if_neg h, joinIn_ok (by omega)]
    constructor
    · rintro (h1 | h1)
      · exact .inl h1
      · exact .inr (.inl h1)
    · rintro (h1 | h1 | ⟨h1, _⟩)
      · exact .inl h1
      · exact .inr h1
      · omega

theorem joinR_ok {a b x : E} : joinR a b = (x, 0) ↔ chk a = 0 ∧ chk b = 0 ∧ a.key = b.key ∧ Jn a b x := by
  unfold joinR
  by_cases h2 : chk2 a b = 0
  · rw [if_pos h2]
    have h := chk2_zero.1 h2
    by_cases hk : a.key = b.key
    · rw [if_pos hk, joined_ok hk]
      exact ⟨fun hj => ⟨h.1, h.2, hk, hj⟩, fun hj => hj.2.2.2⟩
    · rw [if_neg hk]
      constructor
      · intro he
        simp at he
      · intro hj
        exact absurd hj.2.2.1 hk
  · rw [if_neg h2]
    constructor
    · intro he
      simp only [Prod.mk.injEq] at he
      exact absurd he.2 h2
    · intro hj
      exact absurd (chk2_zero.2 ⟨hj.1, hj.2.1⟩) h2

/-- what an entry that is right and its time say, as numbers -/
theorem chk_facts {e : E} (h : chk e = 0) : 0 ≤ e.ver ∧ e.ver ≤ e.asof ∧ e.asof ≤ 1000 := by
  obtain ⟨_, h2, h3, h4, _⟩ := chk_zero.1 h
  rw [seqB_true] at h2 h3
  omega
theorem chk_asof {e : E} {n : Int} (h : chk e = 0) (h1 : e.ver ≤ n) (h2 : n ≤ 1000) : chk { e with asof := n } = 0 := by
  obtain ⟨a1, a2, a3, a4, a5, a6⟩ := chk_zero.1 h
  have h0 := (seqB_true.1 a2).1
  exact chk_zero.2 ⟨a1, a2, seqB_true.2 ⟨Int.le_trans h0 h1, h2⟩, h1, a5, a6⟩

theorem zero_size : E.zero.text.size ≤ maxLen := by
  show (0 : Nat) ≤ maxLen
  exact Nat.zero_le _
theorem joinIn_size {a b : E} (hb : b.text.size ≤ maxLen) : (joinIn a b).1.text.size ≤ maxLen := by
  unfold joinIn
  repeat' split
  all_goals first | exact hb | exact zero_size
theorem joined_size {a b : E} (ha : a.text.size ≤ maxLen) (hb : b.text.size ≤ maxLen) : (joined a b).1.text.size ≤ maxLen := by
  unfold joined
  split
  · exact joinIn_size ha
  · exact joinIn_size hb
theorem joinR_size {a b : E} (ha : a.text.size ≤ maxLen) (hb : b.text.size ≤ maxLen) : (joinR a b).1.text.size ≤ maxLen := by
  unfold joinR
  repeat' split
  all_goals first | exact joined_size ha hb | exact zero_size

theorem Jn.key {a b x : E} (h : Jn a b x) (hk : a.key = b.key) : x.key = b.key := by
  rcases h with ⟨_, _, _, rfl⟩ | ⟨_, _, rfl⟩ | ⟨_, _, rfl⟩
  · rfl
  · rfl
  · exact hk
theorem Jn.right {a b x : E} (h : Jn a b x) (ha : chk a = 0) (hb : chk b = 0) : chk x = 0 := by
  have fa := chk_facts ha
  have fb := chk_facts hb
  rcases h with ⟨_, _, _, rfl⟩ | ⟨_, _, rfl⟩ | ⟨_, _, rfl⟩
  · exact chk_asof hb (by omega) (by omega)
  · exact hb
  · exact ha
theorem Jn.comm {a b x : E} (h : Jn a b x) (hk : a.key = b.key) : Jn b a x := by
  obtain ⟨k, v, s, g, t⟩ := a
  obtain ⟨k', v', s', g', t'⟩ := b
  simp only [Jn] at h hk ⊢
  subst hk
  rcases h with ⟨rfl, rfl, rfl, rfl⟩ | ⟨h1, h2, rfl⟩ | ⟨h1, h2, rfl⟩
  · exact .inl ⟨rfl, rfl, rfl, by simp only [E.mk.injEq, true_and, and_true]; omega⟩
  · exact .inr (.inr ⟨h1, h2, rfl⟩)
  · exact .inr (.inl ⟨h1, h2, rfl⟩)
theorem Jn.left {a b x : E} (h : Jn a b x) (hk : a.key = b.key) : Jn x a x := by
  obtain ⟨k, v, s, g, t⟩ := a
  obtain ⟨k', v', s', g', t'⟩ := b
  simp only [Jn] at h hk ⊢
  subst hk
  rcases h with ⟨rfl, rfl, rfl, rfl⟩ | ⟨h1, h2, rfl⟩ | ⟨h1, h2, rfl⟩
  · exact .inl ⟨rfl, rfl, rfl, by simp only [E.mk.injEq, true_and, and_true]; omega⟩
  · exact .inr (.inr ⟨h1, h2, trivial⟩)
  · exact .inl ⟨rfl, rfl, rfl, by simp only [E.mk.injEq, true_and, and_true]; omega⟩
theorem Jn.again {a b x : E} (h : Jn a b x) (hk : a.key = b.key) : Jn x b x := (h.comm hk).left hk.symm
theorem Jn.newer {a b x : E} (h : Jn a b x) (ha : chk a = 0) (hb : chk b = 0) : a.ver ≤ x.ver ∧ b.ver ≤ x.ver ∧ a.asof ≤ x.asof ∧ b.asof ≤ x.asof := by
  have fa := chk_facts ha
  have fb := chk_facts hb
  rcases h with ⟨h1, _, _, rfl⟩ | ⟨h1, h2, rfl⟩ | ⟨h1, h2, rfl⟩
  · simp only; omega
  · omega
  · omega
theorem Jn.assoc {a b c x p y z : E} (h1 : Jn a b x) (h2 : Jn x c p) (h3 : Jn b c y) (h4 : Jn a c z) (ha : chk a = 0) (hb : chk b = 0) (hc : chk c = 0) (hk : a.key = b.key) (hk' : b.key = c.key) : Jn a y p := by
  have fa := chk_facts ha
  have fb := chk_facts hb
  have fc := chk_facts hc
  clear ha hb hc
  obtain ⟨k, v, s, g, t⟩ := a
  obtain ⟨k', v', s', g', t'⟩ := b
  obtain ⟨k'', v'', s'', g'', t''⟩ := c
  simp only at hk hk' fa fb fc
  subst hk hk'
  simp only [Jn] at h1 h3 h4
  rcases h1 with ⟨e1, e2, e3, rfl⟩ | ⟨e1, e2, rfl⟩ | ⟨e1, e2, rfl⟩ <;>
  rcases h3 with ⟨i1, i2, i3, rfl⟩ | ⟨i1, i2, rfl⟩ | ⟨i1, i2, rfl⟩ <;>
  simp only [Jn] at h2 ⊢ <;>
  rcases h2 with ⟨j1, j2, j3, rfl⟩ | ⟨j1, j2, rfl⟩ | ⟨j1, j2, rfl⟩
  all_goals first
    | (exfalso; omega)
    | exact .inl ⟨‹_›, ‹_›, ‹_›, rfl⟩
    | exact .inl ⟨by omega, by simp_all, by simp_all, by simp only [E.mk.injEq, true_and, and_true]; refine ⟨?_, ?_⟩ <;> first | omega | (refine ⟨?_, ?_⟩ <;> first | omega | simp_all)⟩
    | exact .inl ⟨by omega, by simp_all, by simp_all, by simp only [E.mk.injEq, true_and, and_true]; omega⟩
    | exact .inl ⟨by omega, by simp_all, by simp_all, by simp_all; omega⟩
    | exact .inr (.inl ⟨by omega, by omega, by simp_all⟩)
    | exact .inr (.inr ⟨by omega, by omega, by simp_all⟩)
    | exact .inr (.inr ⟨by omega, by omega, by simp only [E.mk.injEq, true_and, and_true]; omega⟩)
    | (exfalso; rcases h4 with ⟨l1, l2, l3, l4⟩ | ⟨l1, l2, l3⟩ | ⟨l1, l2, l3⟩ <;> omega)
end Go.Proofs.YtemhdfodghfkfaaGreatDoor
namespace Go.Proofs.YtemhdfodghfkfaaGreatDoor
open Go.RowKit
open Go.ChangeShapes Go.WideShapes Go.ChangeAt

theorem rkey_any (k : Int) (w : World) : Calls Tryz.prog 35 #[.int .i64 k] w fun e w' => e = .returned (.bool (keyB k)) ∧ w = w' := by
  rcases hk : keyB k with _ | _
  · rw [keyB_false] at hk
    by_cases h0 : 0 ≤ k
    · have h8 : ¬ k ≤ 7 := by omega
      clear hk
      go_enter Tryz.func35, Tryz.ntmps35
      go_wp2
      go_ret
      exact ⟨rfl, rfl⟩
    · clear hk
      go_enter Tryz.func35, Tryz.ntmps35
      go_wp2
      go_ret
      exact ⟨rfl, rfl⟩
  · rw [keyB_true] at hk
    obtain ⟨h0, h8⟩ := hk
    have h7 : k ≤ 7 := by omega
    go_enter Tryz.func35, Tryz.ntmps35
    go_wp2
    go_ret
    exact ⟨rfl, rfl⟩

/-! ### mereref1.Join -/
def rjoinIn (a b : E) : E × Int :=
  if a.ver = b.ver then
    if (!(a.gone == b.gone) || !(a.text.toList == b.text.toList)) = true then (E.zero, 7) else if b.asof < a.asof then (a, 0) else (b, 0)
  else if b.ver ≤ a.asof then (E.zero, 7) else (b, 0)
def rjoin (a b : E) : E × Int := if b.ver < a.ver then rjoinIn b a else rjoinIn a b

set_option maxHeartbeats 2000000 in
theorem rjoin_lo (k v a : Int) (g : Bool) (t : ByteArray) (k' v' a' : Int) (g' : Bool) (t' : ByteArray) (w : World) (hv : v ≤ v') :
    Calls Tryz.prog 86 #[.agg #[.int .i64 k, .int .i64 v, .int .i64 a, .bool g, .string t], .agg #[.int .i64 k', .int .i64 v', .int .i64 a', .bool g', .string t']] w fun e w' =>
      e = .returned (.tuple #[(rjoinIn ⟨k, v, a, g, t⟩ ⟨k', v', a', g', t'⟩).1.val, .int .i64 (rjoinIn ⟨k, v, a, g, t⟩ ⟨k', v', a', g', t'⟩).2]) ∧ Below w.heap.size w w' := by
  generalize hr : rjoinIn ⟨k, v, a, g, t⟩ ⟨k', v', a', g', t'⟩ = r
  have Hr := hid hr
  clear hr
  have hv' : ¬ v' < v := by omega
  go_enter Tryz.func86, Tryz.ntmps86
  go_wp2_with fail
  all_goals
    refine bodyPost_ret (v := .tuple #[r.1.val, .int .i64 r.2]) ?_ rfl ⟨rfl, by (repeat (first | with_reducible exact Below.refl _ _ | with_reducible assumption | (with_reducible refine Below.drew ?_) | (with_reducible refine Below.manyDrew ?_ _) | ((with_reducible refine Below.alloc ?_ ?_ _); rotate_left; (focus (first | omega | (dsimp only; omega) | (simp; done) | (simp; omega)))) | ((with_reducible refine Below.setCell ?_ ?_ _); rotate_left; (focus (first | omega | (dsimp only; omega) | (simp; done) | (simp; omega)))) | ((with_reducible refine Below.step ?_ (by assumption) ?_); rotate_left; (focus (first | omega | (dsimp only; omega) | (simp; done) | (simp; omega))))))⟩
    rw [← Hr.out]
    simp only [beq_iff_eq, beq_eq_false_iff_ne, ne_eq] at *
    simp [results, Tryz.results86, go_sem, rjoinIn, E.val, E.zero, *]
    all_goals first | omega | (simp (disch := omega) only [if_neg]; done) | (simp (disch := omega) only [if_neg]; simp; done)

set_option maxHeartbeats 2000000 in
theorem rjoin_any (k v a : Int) (g : Bool) (t : ByteArray) (k' v' a' : Int) (g' : Bool) (t' : ByteArray) (w : World) :
    Calls Tryz.prog 86 #[.agg #[.int .i64 k, .int .i64 v, .int .i64 a, .bool g, .string t], .agg #[.int .i64 k', .int .i64 v', .int .i64 a', .bool g', .string t']] w fun e w' =>
      e = .returned (.tuple #[(rjoin ⟨k, v, a, g, t⟩ ⟨k', v', a', g', t'⟩).1.val, .int .i64 (rjoin ⟨k, v, a, g, t⟩ ⟨k', v', a', g', t'⟩).2]) ∧ Below w.heap.size w w' := by
  by_cases hv : v' < v
  · have hne : (v == v') = false := by rw [beq_eq_false_iff_ne]; omega
    rw [rjoin, if_pos hv]
    generalize hr : rjoinIn ⟨k', v', a', g', t'⟩ ⟨k, v, a, g, t⟩ = r
    have Hr := hid hr
    clear hr
    obtain ⟨⟨k1, v1, a1, g1, t1⟩, n1⟩ := r
    go_enter Tryz.func86, Tryz.ntmps86
    go_wp2_with fail
    refine (rjoin_lo k' v' a' g' t' k v a g t _ (by omega)).mono ?_
    rw [Hr.out]
    unfold E.val
    rintro e w1 ⟨rfl, hb1⟩; obtain ⟨hc1, hf1⟩ := bcell hb1; have hz1 := hb1.size; (try simp only [World.size_alloc] at hz1); (try simp only [World.size_setCell] at hz1)
    go_wp2_with fail
    refine bodyPost_ret (v := .tuple #[.agg #[.int .i64 k1, .int .i64 v1, .int .i64 a1, .bool g1, .string t1], .int .i64 n1]) ?_ rfl ⟨rfl, by (repeat (first | with_reducible exact Below.refl _ _ | with_reducible assumption | (with_reducible refine Below.drew ?_) | (with_reducible refine Below.manyDrew ?_ _) | ((with_reducible refine Below.alloc ?_ ?_ _); rotate_left; (focus (first | omega | (dsimp only; omega) | (simp; done) | (simp; omega)))) | ((with_reducible refine Below.setCell ?_ ?_ _); rotate_left; (focus (first | omega | (dsimp only; omega) | (simp; done) | (simp; omega)))) | ((with_reducible refine Below.step ?_ (by assumption) ?_); rotate_left; (focus (first | omega | (dsimp only; omega) | (simp; done) | (simp; omega))))))⟩
    exact results_box Tryz.results86 rfl (Blk.put5 ((Blk.new_at (by simp)).belowS hb1) _ _ _ _ _) Tryz.underlying59 rfl (by kernel_rfl)
  · rw [rjoin, if_neg hv]
    exact rjoin_lo k v a g t k' v' a' g' t' w (by omega)

theorem toList_inj {a b : ByteArray} (h : a.toList = b.toList) : a = b := by
  rw [ByteArray.toList_eq, ByteArray.toList_eq] at h
  obtain ⟨⟨x⟩⟩ := a
  obtain ⟨⟨y⟩⟩ := b
  simp only at h
  rw [h]
theorem joinIn_same {a b : E} (hk : a.key = b.key) : joinIn a b = rjoinIn a b := by
  unfold joinIn rjoinIn
  by_cases hv : a.ver = b.ver
  · rw [if_pos hv, if_pos hv]
    by_cases hc : (!(a.gone == b.gone) || !(a.text.toList == b.text.toList)) = true
    · rw [if_pos hc, if_pos hc]
    · rw [if_neg hc, if_neg hc]
      simp only [Bool.or_eq_true, Bool.not_eq_true', not_or, Bool.not_eq_false, beq_iff_eq] at hc
      obtain ⟨k, v, x, g, t⟩ := a
      obtain ⟨k', v', x', g', t'⟩ := b
      simp only at hk hv hc
      obtain ⟨hg, ht⟩ := hc
      have ht' := toList_inj ht
      subst hk hv hg ht'
      simp only
      by_cases hx : x' < x
      · rw [if_pos hx, Int.max_eq_left (by omega)]
      · rw [if_neg hx, Int.max_eq_right (by omega)]
  · rw [if_neg hv, if_neg hv]
theorem joined_rjoin {a b : E} (hk : a.key = b.key) : joined a b = rjoin a b := by
  unfold joined rjoin
  split
  · exact joinIn_same hk.symm
  · exact joinIn_same hk
end Go.Proofs.YtemhdfodghfkfaaGreatDoor
