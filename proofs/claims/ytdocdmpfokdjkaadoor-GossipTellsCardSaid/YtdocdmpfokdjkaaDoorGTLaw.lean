/-
  PLAIN LAW OF GOSSIP: what each knows as a number and as a row of bits. CONDITIONS: none.
-/
import Derived.Test.YtdocdmpfokdjkaaDoorRGPlay
namespace Go.Proofs.YtdocdmpfokdjkaaDoor
open Go.RowKit
open Go.ChangeShapes Go.WideShapes Go.ChangeAt

/-- below a power -/
def SmallN (n : Nat) (l : List Nat) : Prop := ∀ i, l.getD i 0 < 2 ^ n
theorem SmallN.step {n : Nat} {l : List Nat} (h : SmallN n l) {a b : Nat} (ha : a < l.length) (hb : b < l.length) : SmallN n (gStep l a b) := fun i => by
  rw [gStep_get ha hb]
  split
  · exact Nat.or_lt_two_pow (h a) (h b)
  · exact h i
theorem initN_smallN (n : Nat) : SmallN n (initN n) := fun i => by
  unfold initN
  rw [List.getD_eq_getElem?_getD, List.getElem?_map]
  by_cases hi : i < n
  · rw [List.getElem?_range hi]
    exact Nat.pow_lt_pow_right (by omega) hi
  · rw [List.getElem?_eq_none (by simpa using hi)]
    exact Nat.two_pow_pos n
theorem gPlay_smallN {n : Nat} : ∀ (cs : List (SlV Int)) (l : List Nat), SmallN n l → l.length = n → (∀ c ∈ cs, CallOk n c.xs) → SmallN n (gPlay l cs)
  | [], _, h, _, _ => h
  | c :: cs, l, h, hl, hc => by
    obtain ⟨p1, p2, _⟩ := callOk_pair (hc c (List.mem_cons_self ..))
    exact gPlay_smallN cs (gStep l (pairOf c).1 (pairOf c).2) (h.step (by omega) (by omega)) (by rw [gStep_length, hl]) (fun c hm => hc c (List.mem_cons_of_mem _ hm))
theorem mod_bit (P j : Nat) : P % 2 ^ (j + 1) = P % 2 ^ j + (if P.testBit j = true then 2 ^ j else 0) := by
  rw [Nat.mod_pow_succ, Nat.testBit_eq_decide_div_mod_eq]
  by_cases h : P / 2 ^ j % 2 = 1
  · rw [h, if_pos (by simp), Nat.mul_one]
  · have h0 : P / 2 ^ j % 2 = 0 := by omega
    rw [h0, if_neg (by simp), Nat.mul_zero]
theorem playR_nat' {n : Nat} {cs : List (SlV Int)} (h0 : chkG n cs = 0) : playR n cs = castL (gPlay (initN n) cs) := by
  rw [playR, if_pos h0, Int.toNat_natCast]
  exact playL_nat (by have := (chkG_ok h0).1; omega) (chkG_ok h0).2.2
theorem doneB_bits {n : Nat} {cs : List (SlV Int)} (h0 : chkG n cs = 0) : doneB n cs = true ↔ ∀ a, a < n → ∀ b, b < n → bitK (gPlay (initN n) cs) a b = true := by
  obtain ⟨⟨h1, h6⟩, _, hc⟩ := chkG_ok h0
  have hlen : (gPlay (initN n) cs).length = n := by rw [gPlay_length, initN_length]
  have hsm := gPlay_smallN cs (initN n) (initN_smallN n) (initN_length n) hc
  unfold doneB
  rw [h0, playR_nat' h0]
  simp only [decide_true, Bool.true_and, Bool.not_eq_true', List.any_eq_false]
  constructor
  · intro hall a ha b hb
    have hmem : (((gPlay (initN n) cs).getD a 0 : Nat) : Int) ∈ castL (gPlay (initN n) cs) := by
      unfold castL
      exact List.mem_map.2 ⟨_, getD_memD 0 (by omega), rfl⟩
    have := hall _ hmem
    simp only [ne_eq, decide_not, Bool.not_eq_true, Bool.not_eq_false', decide_eq_true_eq] at this
    rw [fullI_val (by omega)] at this
    have e : (gPlay (initN n) cs).getD a 0 = 2 ^ n - 1 := by omega
    show ((gPlay (initN n) cs).getD a 0).testBit b = true
    rw [e, Nat.testBit_two_pow_sub_one]
    simpa using hb
  · intro hb x hx
    unfold castL at hx
    obtain ⟨y, hy, rfl⟩ := List.mem_map.1 hx
    obtain ⟨a, ha, rfl⟩ := List.mem_iff_getElem.1 hy
    have e : (gPlay (initN n) cs)[a] = 2 ^ n - 1 := by
      rw [← getD_get 0 ha]
      refine Nat.eq_of_testBit_eq (fun b => ?_)
      rw [Nat.testBit_two_pow_sub_one]
      by_cases hbn : b < n
      · rw [decide_eq_true hbn]; exact hb a (by omega) b hbn
      · rw [decide_eq_false hbn]
        exact Nat.testBit_lt_two_pow (Nat.lt_of_lt_of_le (hsm a) (Nat.pow_le_pow_right (by omega) (by omega)))
    rw [fullI_val (by omega), e]
    simp
end Go.Proofs.YtdocdmpfokdjkaaDoor
