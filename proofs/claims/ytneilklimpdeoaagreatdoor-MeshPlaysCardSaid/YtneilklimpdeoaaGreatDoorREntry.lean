/-
  CONTRACTS of the references mereref1.Key, mereref1.Entry, mereref1.Join: the same plain functions as the program's. CONDITIONS: none.
-/
import Derived.Test.YtneilklimpdeoaaGreatDoorJoinLaw
namespace Go.Proofs.YtneilklimpdeoaaGreatDoor
open Go.RowKit
open Go.ChangeShapes Go.WideShapes Go.ChangeAt

theorem rkey_any (k : Int) (w : World) : Calls Tryz.prog 26 #[.int .i64 k] w fun e w' => e = .returned (.bool (keyB k)) ∧ w = w' := by
  rcases hk : keyB k with _ | _
  · rw [keyB_false] at hk
    by_cases h0 : 0 ≤ k
    · have h8 : ¬ k ≤ 7 := by omega
      clear hk
      go_enter Tryz.func26, Tryz.ntmps26
      go_wp2
      go_ret
      exact ⟨rfl, rfl⟩
    · clear hk
      go_enter Tryz.func26, Tryz.ntmps26
      go_wp2
      go_ret
      exact ⟨rfl, rfl⟩
  · rw [keyB_true] at hk
    obtain ⟨h0, h8⟩ := hk
    have h7 : k ≤ 7 := by omega
    go_enter Tryz.func26, Tryz.ntmps26
    go_wp2
    go_ret
    exact ⟨rfl, rfl⟩

/-! ### mereref1.Join -/
def rjoinIn (a b : E) : E × Int :=
  if a.ver = b.ver then
    if (!(a.gone == b.gone) || !(a.text.toList == b.text.toList)) = true then (E.zero, 7) else if b.asof < a.asof then (a, 0) else (b, 0)
  else if b.ver ≤ a.asof then (E.zero, 7) else (b, 0)
def rjoin (a b : E) : E × Int := if b.ver < a.ver then rjoinIn b a else rjoinIn a b

set_option maxHeartbeats 2000000 in
theorem rjoin_lo (k v a : Int) (g : Bool) (t : ByteArray) (k' v' a' : Int) (g' : Bool) (t' : ByteArray) (w : World) (hv : v ≤ v') :
    Calls Tryz.prog 56 #[.agg #[.int .i64 k, .int .i64 v, .int .i64 a, .bool g, .string t], .agg #[.int .i64 k', .int .i64 v', .int .i64 a', .bool g', .string t']] w fun e w' =>
      e = .returned (.tuple #[(rjoinIn ⟨k, v, a, g, t⟩ ⟨k', v', a', g', t'⟩).1.val, .int .i64 (rjoinIn ⟨k, v, a, g, t⟩ ⟨k', v', a', g', t'⟩).2]) ∧ Below w.heap.size w w' := by
  generalize hr : rjoinIn ⟨k, v, a, g, t⟩ ⟨k', v', a', g', t'⟩ = r
  have Hr := hid hr
  clear hr
  have hv' : ¬ v' < v := by omega
  go_enter Tryz.func56, Tryz.ntmps56
  go_wp2_with fail
  all_goals
    refine bodyPost_ret (v := .tuple #[r.1.val, .int .i64 r.2]) ?_ rfl ⟨rfl, by (repeat (first | with_reducible exact Below.refl _ _ | with_reducible assumption | (with_reducible refine Below.drew ?_) | (with_reducible refine Below.manyDrew ?_ _) | ((with_reducible refine Below.alloc ?_ ?_ _); rotate_left; (focus (first | omega | (dsimp only; omega) | (simp; done) | (simp; omega)))) | ((with_reducible refine Below.setCell ?_ ?_ _); rotate_left; (focus (first | omega | (dsimp only; omega) | (simp; done) | (simp; omega)))) | ((with_reducible refine Below.step ?_ (by assumption) ?_); rotate_left; (focus (first | omega | (dsimp only; omega) | (simp; done) | (simp; omega))))))⟩
    rw [← Hr.out]
    simp only [beq_iff_eq, beq_eq_false_iff_ne, ne_eq] at *
    simp [results, Tryz.results56, go_sem, rjoinIn, E.val, E.zero, *]
    all_goals first | omega | (simp (disch := omega) only [if_neg]; done) | (simp (disch := omega) only [if_neg]; simp; done)

set_option maxHeartbeats 2000000 in
theorem rjoin_any (k v a : Int) (g : Bool) (t : ByteArray) (k' v' a' : Int) (g' : Bool) (t' : ByteArray) (w : World) :
    Calls Tryz.prog 56 #[.agg #[.int .i64 k, .int .i64 v, .int .i64 a, .bool g, .string t], .agg #[.int .i64 k', .int .i64 v', .int .i64 a', .bool g', .string t']] w fun e w' =>
      e = .returned (.tuple #[(rjoin ⟨k, v, a, g, t⟩ ⟨k', v', a', g', t'⟩).1.val, .int .i64 (rjoin ⟨k, v, a, g, t⟩ ⟨k', v', a', g', t'⟩).2]) ∧ Below w.heap.size w w' := by
  by_cases hv : v' < v
  · have hne : (v == v') = false := by rw [beq_eq_false_iff_ne]; omega
    rw [rjoin, if_pos hv]
    generalize hr : rjoinIn ⟨k', v', a', g', t'⟩ ⟨k, v, a, g, t⟩ = r
    have Hr := hid hr
    clear hr
    obtain ⟨⟨k1, v1, a1, g1, t1⟩, n1⟩ := r
    go_enter Tryz.func56, Tryz.ntmps56
    go_wp2_with fail
    refine (rjoin_lo k' v' a' g' t' k v a g t _ (by omega)).mono ?_
    rw [Hr.out]
    unfold E.val
    rintro e w1 ⟨rfl, hb1⟩; obtain ⟨hc1, hf1⟩ := bcell hb1; have hz1 := hb1.size; (try simp only [World.size_alloc] at hz1); (try simp only [World.size_setCell] at hz1)
    go_wp2_with fail
    refine bodyPost_ret (v := .tuple #[.agg #[.int .i64 k1, .int .i64 v1, .int .i64 a1, .bool g1, .string t1], .int .i64 n1]) ?_ rfl ⟨rfl, by (repeat (first | with_reducible exact Below.refl _ _ | with_reducible assumption | (with_reducible refine Below.drew ?_) | (with_reducible refine Below.manyDrew ?_ _) | ((with_reducible refine Below.alloc ?_ ?_ _); rotate_left; (focus (first | omega | (dsimp only; omega) | (simp; done) | (simp; omega)))) | ((with_reducible refine Below.setCell ?_ ?_ _); rotate_left; (focus (first | omega | (dsimp only; omega) | (simp; done) | (simp; omega)))) | ((with_reducible refine Below.step ?_ (by assumption) ?_); rotate_left; (focus (first | omega | (dsimp only; omega) | (simp; done) | (simp; omega))))))⟩
    exact results_box Tryz.results56 rfl (Blk.put5 ((Blk.new_at (by simp)).belowS hb1) _ _ _ _ _) Tryz.underlying46 rfl (by kernel_rfl)
  · rw [rjoin, if_neg hv]
    exact rjoin_lo k v a g t k' v' a' g' t' w (by omega)

theorem toList_inj {a b : ByteArray} (h : a.toList = b.toList) : a = b := by
  rw [ByteArray.toList_eq, ByteArray.toList_eq] at h
  obtain ⟨⟨x⟩⟩ := a
  obtain ⟨⟨y⟩⟩ := b
  simp only at h
  rw [h]
theorem joinIn_same {a b : E} (hk : a.key = b.key) : joinIn a b = rjoinIn a b := by
  unfold joinIn rjoinIn
  by_cases hv : a.ver = b.ver
  · rw [if_pos hv, if_pos hv]
    by_cases hc : (!(a.gone == b.gone) || !(a.text.toList == b.text.toList)) = true
    · rw [if_pos hc, if_pos hc]
    · rw [if_neg hc, if_neg hc]
      simp only [Bool.or_eq_true, Bool.not_eq_true', not_or, Bool.not_eq_false, beq_iff_eq] at hc
      obtain ⟨k, v, x, g, t⟩ := a
      obtain ⟨k', v', x', g', t'⟩ := b
      simp only at hk hv hc
      obtain ⟨hg, ht⟩ := hc
      have ht' := toList_inj ht
      subst hk hv hg ht'
      simp only
      by_cases hx : x' < x
      · rw [if_pos hx, Int.max_eq_left (by omega)]
      · rw [if_neg hx, Int.max_eq_right (by omega)]
  · rw [if_neg hv, if_neg hv]
theorem joined_rjoin {a b : E} (hk : a.key = b.key) : joined a b = rjoin a b := by
  unfold joined rjoin
  split
  · exact joinIn_same hk.symm
  · exact joinIn_same hk
end Go.Proofs.YtneilklimpdeoaaGreatDoor
