/-
  CONTRACTS of the references mereref1.Key, mereref1.Entry, mereref1.Join: the same plain functions as the program's. CONDITIONS: none.
-/
import Derived.Test.YtljkclebcoanaaaGreatDoorJoinLaw
namespace Go.Proofs.YtljkclebcoanaaaGreatDoor
open Go.RowKit
open Go.ChangeShapes Go.WideShapes Go.ChangeAt

theorem rkey_any (k : Int) (w : World) : Calls Tryz.prog 30 #[.int .i64 k] w fun e w' => e = .returned (.bool (keyB k)) ∧ w = w' := by
  rcases hk : keyB k with _ | _
  · rw [keyB_false] at hk
    by_cases h0 : 0 ≤ k
    · have h8 : ¬ k ≤ 7 := by omega
      clear hk
      go_enter Tryz.func30, Tryz.ntmps30
      go_wp2
      go_ret
      exact ⟨rfl, rfl⟩
    · clear hk
      go_enter Tryz.func30, Tryz.ntmps30
      go_wp2
      go_ret
      exact ⟨rfl, rfl⟩
  · rw [keyB_true] at hk
    obtain ⟨h0, h8⟩ := hk
    have h7 : k ≤ 7 := by omega
    go_enter Tryz.func30, Tryz.ntmps30
    go_wp2
    go_ret
    exact ⟨rfl, rfl⟩

/-! ### mereref1.Join -/
def rjoinIn (a b : E) : E × Int :=
  if a.ver = b.ver then
    if (!(a.gone == b.gone) || !(a.text.toList == b.text.toList)) = true then (E.zero, 7) else if b.asof < a.asof then (a, 0) else (b, 0)
  else if b.ver ≤ a.asof then (E.zero, 7) else (b, 0)
def rjoin (a b : E) : E × Int := if b.ver < a.ver then rjoinIn b a else rjoinIn a b

theorem toList_inj {a b : ByteArray} (h : a.toList = b.toList) : a = b := by
  rw [ByteArray.toList_eq, ByteArray.toList_eq] at h
  obtain ⟨⟨x⟩⟩ := a
  obtain ⟨⟨y⟩⟩ := b
  simp only at h
  rw [h]
theorem joinIn_same {a b : E} (hk : a.key = b.key) : joinIn a b = rjoinIn a b := by
  unfold joinIn rjoinIn
  by_cases hv : a.ver = b.ver
  · rw [if_pos hv, if_pos hv]
    by_cases hc : (!(a.gone == b.gone) || !(a.text.toList == b.text.toList)) = true
    · rw [if_pos hc, if_pos hc]
    · rw [if_neg hc, if_neg hc]
      simp only [Bool.or_eq_true, Bool.not_eq_true', not_or, Bool.not_eq_false, beq_iff_eq] at hc
      obtain ⟨k, v, x, g, t⟩ := a
      obtain ⟨k', v', x', g', t'⟩ := b
      simp only at hk hv hc
      obtain ⟨hg, ht⟩ := hc
      have ht' := toList_inj ht
      subst hk hv hg ht'
      simp only
      by_cases hx : x' < x
      · rw [if_pos hx, Int.max_eq_left (by omega)]
      · rw [if_neg hx, Int.max_eq_right (by omega)]
  · rw [if_neg hv, if_neg hv]
theorem joined_rjoin {a b : E} (hk : a.key = b.key) : joined a b = rjoin a b := by
  unfold joined rjoin
  split
  · exact joinIn_same hk.symm
  · exact joinIn_same hk
end Go.Proofs.YtljkclebcoanaaaGreatDoor
