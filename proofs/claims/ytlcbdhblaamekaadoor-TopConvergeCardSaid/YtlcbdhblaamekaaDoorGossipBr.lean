/-
  FROM gossip.Done's plain function to the lower bound; what a call more does. CONDITIONS: none.
-/
import Derived.Test.YtlcbdhblaamekaaDoorGPlay
import Derived.Test.YtlcbdhblaamekaaDoorGossipNum
import Derived.Test.YtlcbdhblaamekaaDoorKit
namespace Go.Proofs.YtlcbdhblaamekaaDoor
open Go.RowKit
open Go.ChangeShapes Go.WideShapes Go.ChangeAt

theorem or_i64 (a b : Nat) (ha : a < 64) (hb : b < 64) : orI (a : Int) (b : Int) = ((a ||| b : Nat) : Int) := by
  have hx : a ||| b < 2 ^ 6 := Nat.or_lt_two_pow (by omega) (by omega)
  unfold orI
  show IntKind.i64.wrap ((BitVec.ofInt 64 (a : Int) ||| BitVec.ofInt 64 (b : Int)).toNat : Int) = _
  rw [BitVec.toNat_or, ofInt_u64 a (by omega), ofInt_u64 b (by omega)]
  exact IntWalk.i64_in _ (by omega)
def pairOf (c : SlV Int) : Nat × Nat := ((c.xs.getD 0 0).toNat, (c.xs.getD 1 0).toNat)
def castL (l : List Nat) : List Int := l.map fun x : Nat => (x : Int)
theorem castL_getD (l : List Nat) (i : Nat) : (castL l).getD i 0 = ((l.getD i 0 : Nat) : Int) := by
  unfold castL
  simp only [List.getD, List.getElem?_map]
  cases l[i]? <;> rfl
theorem castL_set (l : List Nat) (i x : Nat) : (castL l).set i (x : Int) = castL (l.set i x) := by simp [castL, List.map_set]
def Small (l : List Nat) : Prop := ∀ i, l.getD i 0 < 64
theorem Small.step {l : List Nat} (h : Small l) {a b : Nat} (ha : a < l.length) (hb : b < l.length) : Small (gStep l a b) := fun i => by
  rw [gStep_get ha hb]
  split
  · exact Nat.or_lt_two_pow (n := 6) (h a) (h b)
  · exact h i
theorem stepG_nat {n : Nat} {l : List Nat} {c : SlV Int} (h : Small l) (_hl : l.length = n) (_hc : CallOk n c.xs) : stepG (castL l) c.xs = castL (gStep l (pairOf c).1 (pairOf c).2) := by
  unfold stepG gStep pairOf
  rw [castL_getD, castL_getD, or_i64 _ _ (h _) (h _), castL_set, castL_set]
def gPlay (l : List Nat) (cs : List (SlV Int)) : List Nat := (cs.map pairOf).foldl (fun s c => gStep s c.1 c.2) l
theorem callOk_pair {n : Nat} {c : SlV Int} (h : CallOk n c.xs) : (pairOf c).1 < n ∧ (pairOf c).2 < n ∧ (pairOf c).1 ≠ (pairOf c).2 := by
  obtain ⟨_, h1, h2, h3⟩ := h
  unfold pairOf
  refine ⟨by simp only; omega, by simp only; omega, ?_⟩
  simp only
  omega
theorem playFrom_nat {n : Nat} : ∀ (cs : List (SlV Int)) (l : List Nat), Small l → l.length = n → (∀ c ∈ cs, CallOk n c.xs) → playFrom (castL l) cs = castL (gPlay l cs)
  | [], _, _, _, _ => rfl
  | c :: r, l, h, hl, hc => by
    obtain ⟨p1, p2, _⟩ := callOk_pair (hc c (List.mem_cons_self ..))
    rw [playFrom, stepG_nat h hl (hc c (List.mem_cons_self ..)), playFrom_nat r _ (h.step (by omega) (by omega)) (by rw [gStep_length]; exact hl) (fun c' h' => hc c' (List.mem_cons_of_mem _ h'))]
    rfl
theorem two_pow_small {i : Nat} (h : i < 7) : (2 : Int) ^ i = ((2 ^ i : Nat) : Int) ∧ 2 ^ i ≤ 64 ∧ 1 ≤ 2 ^ i := by
  refine ⟨by simp, ?_, Nat.one_le_two_pow⟩
  exact Nat.le_trans (Nat.pow_le_pow_right (by decide) (show i ≤ 6 by omega)) (by decide)
theorem wrap_small {x : Int} (h0 : 0 ≤ x) (h : x ≤ 64) : wrap64 x = x := by unfold wrap64; omega
theorem pows_cast {n : Nat} (h : n ≤ 6) : pows n = castL (initN n) := by
  unfold pows castL initN
  rw [List.map_map]
  apply List.map_congr_left
  intro i hi
  have hi' := List.mem_range.1 hi
  obtain ⟨e, h1, _⟩ := two_pow_small (i := i) (by omega)
  rw [e, wrap_small (by omega) (by omega)]
  rfl
theorem initN_length (n : Nat) : (initN n).length = n := by simp [initN]
theorem initN_small {n : Nat} (h : n ≤ 6) : Small (initN n) := fun i => by
  by_cases hi : i < n
  · rw [getD_get 0 (by rw [initN_length]; exact hi)]
    simp only [initN, List.getElem_map, List.getElem_range]
    exact Nat.lt_of_lt_of_le (Nat.pow_lt_pow_right (by decide) (show i < 6 by omega)) (by decide)
  · rw [List.getD, List.getElem?_eq_none (by rw [initN_length]; omega)]
    decide
theorem playL_nat {n : Nat} (h : n ≤ 6) {cs : List (SlV Int)} (hc : ∀ c ∈ cs, CallOk n c.xs) : playL n cs = castL (gPlay (initN n) cs) := by
  unfold playL
  rw [pows_cast h]
  exact playFrom_nat cs _ (initN_small h) (initN_length n) hc
theorem gPlay_length : ∀ (cs : List (SlV Int)) (l : List Nat), (gPlay l cs).length = l.length
  | [], _ => rfl
  | c :: r, l => by
    show (gPlay (gStep l _ _) r).length = _
    rw [gPlay_length r, gStep_length]
theorem fullI_val {n : Nat} (h : n ≤ 6) : fullI n = ((2 ^ n - 1 : Nat) : Int) := by
  obtain ⟨e, h1, h2⟩ := two_pow_small (i := n) (by omega)
  unfold fullI
  rw [Int.toNat_natCast, e, wrap_small (x := ((2 ^ n : Nat) : Int)) (by omega) (by omega), wrap_small (by omega) (by omega)]
  omega
/-- done: then there were as many calls as the plan has -/
theorem done_few {n : Nat} {cs : List (SlV Int)} (hd : doneB n cs = true) : ¬ cs.length < needN n := by
  intro hl
  unfold doneB at hd
  simp only [Bool.and_eq_true, decide_eq_true_eq, Bool.not_eq_true'] at hd
  obtain ⟨h0, hall⟩ := hd
  obtain ⟨⟨h1, h6⟩, _, hc⟩ := chkG_ok h0
  have hR : playR n cs = castL (gPlay (initN n) cs) := by
    rw [playR, if_pos h0, Int.toNat_natCast]
    exact playL_nat (by omega) hc
  rw [hR, List.any_eq_false] at hall
  refine few_calls (n := n) (by omega) (by omega) (cs.map pairOf) ?_ (by rw [List.length_map]; exact hl) ?_
  · intro c hcm
    obtain ⟨c', h', rfl⟩ := List.mem_map.1 hcm
    exact callOk_pair (hc c' h')
  · intro i hi j hj
    have hlen : (gPlay (initN n) cs).length = n := by rw [gPlay_length, initN_length]
    have hmem : (((gPlay (initN n) cs).getD i 0 : Nat) : Int) ∈ castL (gPlay (initN n) cs) := by
      unfold castL
      exact List.mem_map.2 ⟨_, getD_memD 0 (by omega), rfl⟩
    have := hall _ hmem
    simp only [ne_eq, decide_not, Bool.not_eq_true, Bool.not_eq_false', decide_eq_true_eq] at this
    rw [fullI_val (by omega)] at this
    have e : (gPlay (initN n) cs).getD i 0 = 2 ^ n - 1 := by omega
    show ((gPlay (initN n) cs).getD i 0).testBit j = true
    rw [e, Nat.testBit_two_pow_sub_one]
    simpa using hj
/-- a call more takes nothing away -/
theorem gPlay_more (l : List Nat) (cs : List (SlV Int)) (c : SlV Int) : gPlay l (cs ++ [c]) = gStep (gPlay l cs) (pairOf c).1 (pairOf c).2 := by simp [gPlay]
theorem more_bits {n : Nat} {cs : List (SlV Int)} {c : SlV Int} (hc : CallOk n c.xs) {i j : Nat} (h : ((gPlay (initN n) cs).getD i 0).testBit j = true) : ((gPlay (initN n) (cs ++ [c])).getD i 0).testBit j = true := by
  obtain ⟨p1, p2, _⟩ := callOk_pair hc
  have hlen : (gPlay (initN n) cs).length = n := by rw [gPlay_length, initN_length]
  rw [gPlay_more, gStep_get (by omega) (by omega)]
  split
  · rename_i hi
    rw [Nat.testBit_or, Bool.or_eq_true]
    rcases hi with rfl | rfl
    · exact .inl h
    · exact .inr h
  · exact h
end Go.Proofs.YtlcbdhblaamekaaDoor
