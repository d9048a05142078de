/-
  PLAIN LAWS for HintNewest: one of each, the newest; how many there are. CONDITIONS: none.
-/
import Derived.Test.YtjhphagcmiggdaaHint4
namespace Go.Proofs.Ytjhphagcmiggdaa
open Go.RowKit

theorem snocInd {α : Type} {P : List α → Prop} (l : List α) (h0 : P []) (h1 : ∀ l a, P l → P (l ++ [a])) : P l := by
  rw [← List.reverse_reverse l]
  induction l.reverse with
  | nil => exact h0
  | cons a r ih => rw [List.reverse_cons]; exact h1 _ a ih
/-- the place of a hint among all -/
def ixH (x : H) : Nat := x.node.toNat * 8 + x.key.toNat
def cnt (bs : List Int) : Nat := (bs.filter fun b => decide (0 < b)).length
theorem cnt_snoc (bs : List Int) (b : Int) : cnt (bs ++ [b]) = if 0 < b then cnt bs + 1 else cnt bs := by
  unfold cnt; rw [List.filter_append]; by_cases h : 0 < b <;> simp [h]
theorem cnt_set : ∀ (bs : List Int) (i : Nat) (v : Int), i < bs.length → 0 < v → cnt (bs.set i v) = if 0 < bs.getD i 0 then cnt bs else cnt bs + 1
  | b :: r, 0, v, _, hv => by
    by_cases h : 0 < b <;> simp [cnt, h, hv]
  | b :: r, i + 1, v, hi, hv => by
    have ih := cnt_set r i v (by simpa using hi) hv
    unfold cnt at ih ⊢
    by_cases h : 0 < b
    · simp only [List.set_cons_succ, List.filter_cons, h, decide_true, if_true, List.length_cons, List.getD_cons_succ]
      rw [ih]; split <;> rfl
    · simp only [List.set_cons_succ, List.filter_cons, h, decide_false, List.getD_cons_succ]
      simpa using ih
theorem ixH_lt {x : H} (h : hintOk x = true) : ixH x < 48 := by
  obtain ⟨h1, h2, _⟩ := hintOk_true.1 h
  have := nodeB_true.1 h1
  have := keyB_true.1 h2
  unfold ixH; omega
theorem ixH_eq {x y : H} (hx : hintOk x = true) (hy : hintOk y = true) : ixH x = ixH y ↔ alikeH x y = true := by
  obtain ⟨h1, h2, _⟩ := hintOk_true.1 hx
  obtain ⟨h3, h4, _⟩ := hintOk_true.1 hy
  have a1 := nodeB_true.1 h1
  have a2 := keyB_true.1 h2
  have a3 := nodeB_true.1 h3
  have a4 := keyB_true.1 h4
  simp only [alikeH, Bool.and_eq_true, decide_eq_true_eq]
  unfold ixH
  omega
def bestU (bs : List Int) (x : H) : List Int := if bs.getD (ixH x) 0 < x.ver then bs.set (ixH x) x.ver else bs
theorem bestU_length (bs : List Int) (x : H) : (bestU bs x).length = bs.length := by unfold bestU; split <;> simp
/-- apart from each other -/
def Apart (l : List H) : Prop := l.Pairwise fun a b => alikeH a b = false
theorem alikeH_sym (x y : H) : alikeH x y = alikeH y x := by
  rw [Bool.eq_iff_iff]; simp [alikeH]; omega
theorem Apart.filter {l : List H} (h : Apart l) (p : H → Bool) : Apart (l.filter p) := List.Pairwise.filter p h
theorem Apart.put {l : List H} (h : Apart l) (x : H) : Apart (putL l x) := by
  unfold putL Apart
  rw [List.pairwise_append]
  refine ⟨h.filter _, List.pairwise_singleton _ _, fun a ha b hb => ?_⟩
  rw [List.mem_singleton.1 hb, alikeH_sym]
  have := (List.mem_filter.1 ha).2
  simpa [unlikeH] using this
theorem Apart.get {l : List H} (h : Apart l) {i j : Nat} (hij : i < j) (hj : j < l.length) : alikeH (l.getD i H.zero) (l.getD j H.zero) = false := by
  rw [getD_get _ (by omega), getD_get _ hj]
  exact List.pairwise_iff_getElem.1 h i j (by omega) hj hij
theorem filter_one : ∀ (l : List H) (x y : H), Apart l → y ∈ l → alikeH x y = true → (l.filter (unlikeH x)).length + 1 = l.length
  | a :: r, x, y, h, hy, hxy => by
    obtain ⟨h1, h2⟩ := List.pairwise_cons.1 h
    by_cases ha : alikeH x a = true
    · have hr : r.filter (unlikeH x) = r := filter_all (fun z hz => by
        have := h1 z hz
        rw [unlikeH, Bool.not_eq_true']
        rw [← Bool.not_eq_true] at this ⊢
        intro hz'
        apply this
        simp only [alikeH, Bool.and_eq_true, decide_eq_true_eq] at ha hz' ⊢
        omega)
      rw [List.filter_cons_of_neg (by simp [unlikeH, ha]), hr, List.length_cons]
    · have hy' : y ∈ r := by
        rcases List.mem_cons.1 hy with rfl | hy
        · exact absurd hxy ha
        · exact hy
      have ih := filter_one r x y h2 hy' hxy
      rw [List.filter_cons_of_pos (by simp [unlikeH, ha]), List.length_cons, List.length_cons, ih]

/-- what holds of the hints and of the best -/
structure Inv (l : List H) (lost : Int) (bs : List Int) : Prop where
  ok : ∀ y ∈ l, hintOk y = true
  apart : Apart l
  len : l.length ≤ 10
  lo : 0 ≤ lost
  size : bs.length = 48
  best : lost = 0 → ∀ y ∈ l, bs.getD (ixH y) 0 = y.ver
  some : lost = 0 → ∀ i, 0 < bs.getD i 0 → ∃ y ∈ l, ixH y = i
  many : lost = 0 → cnt bs = l.length
theorem Inv.good {l : List H} {lost : Int} {bs : List Int} (h : Inv l lost bs) : ∀ y ∈ l, y.good := fun y hy => hintOk_good (h.ok y hy)
theorem getD_setI (l : List Int) (i j : Nat) (u : Int) (hi : i < l.length) : (l.set i u).getD j 0 = if i = j then u else l.getD j 0 := by
  simp only [List.getD, List.getElem?_set]
  by_cases h : i = j
  · rw [if_pos h, if_pos h, if_pos hi]; rfl
  · rw [if_neg h, if_neg h]
theorem Inv.new : Inv [] 0 (List.replicate 48 0) := by
  have hz : ∀ i, (List.replicate 48 (0 : Int)).getD i 0 = 0 := fun i => by simp only [List.getD, List.getElem?_replicate]; split <;> rfl
  exact ⟨by simp, List.Pairwise.nil, by simp, Int.le_refl _, by simp, fun _ y hy => by simp at hy, fun _ i hi => by rw [hz] at hi; omega, fun _ => by decide⟩
theorem Inv.add {l : List H} {lost : Int} {bs : List Int} (h : Inv l lost bs) (x : H) (hx : hintOk x = true) : Inv (addL l x) (addN l lost x) (bestU bs x) := by
  have hix := ixH_lt hx
  have hv : 1 ≤ x.ver := (hintOk_true.1 hx).2.2.1
  by_cases hany : l.any (newerH x) = true
  · have e1 : addL l x = l := by rw [addL, if_pos hx, if_pos hany]
    have e2 : addN l lost x = lost := by rw [addN, if_pos hx, if_pos hany]
    obtain ⟨y, hy, hn⟩ := List.any_eq_true.1 hany
    simp only [newerH, Bool.and_eq_true, decide_eq_true_eq] at hn
    rw [e1, e2]
    refine ⟨h.ok, h.apart, h.len, h.lo, by rw [bestU_length]; exact h.size, fun h0 => ?_, fun h0 => ?_, fun h0 => ?_⟩
    all_goals
      have e3 : bestU bs x = bs := by
        have := h.best h0 y hy
        rw [← (ixH_eq hx (h.ok y hy)).2 hn.1] at this
        rw [bestU, if_neg (by omega)]
      rw [e3]
    · exact h.best h0
    · exact h.some h0
    · exact h.many h0
  · have hput : ∀ y ∈ putL l x, hintOk y = true := fun y hy => by
      rcases List.mem_append.1 hy with hy | hy
      · exact h.ok y (List.mem_filter.1 hy).1
      · rw [List.mem_singleton.1 hy]; exact hx
    by_cases h10 : 10 < (putL l x).length
    · have e1 : addL l x = (putL l x).drop 1 := by rw [addL, if_pos hx, if_neg hany, if_pos h10]
      have e2 : addN l lost x = lost + 1 := by rw [addN, if_pos hx, if_neg hany, if_pos h10]
      have hlo := h.lo
      rw [e1, e2]
      exact ⟨fun y hy => hput y (List.mem_of_mem_drop hy), List.Pairwise.drop (h.apart.put x), by have := putL_length l x; have := h.len; rw [List.length_drop]; omega, by omega, by rw [bestU_length]; exact h.size,
        fun h0 => by omega, fun h0 => by omega, fun h0 => by omega⟩
    · have e1 : addL l x = putL l x := by rw [addL, if_pos hx, if_neg hany, if_neg h10]
      have e2 : addN l lost x = lost := by rw [addN, if_pos hx, if_neg hany, if_neg h10]
      rw [e1, e2]
      have hle : lost = 0 → bs.getD (ixH x) 0 ≤ x.ver := fun h0 => by
        rcases Int.lt_or_le 0 (bs.getD (ixH x) 0) with hp | hp
        · obtain ⟨y, hy, hyi⟩ := h.some h0 _ hp
          have hb := h.best h0 y hy
          rw [hyi] at hb
          have hal := (ixH_eq hx (h.ok y hy)).1 hyi.symm
          have : ¬ newerH x y = true := fun hn => hany (List.any_eq_true.2 ⟨y, hy, hn⟩)
          simp only [newerH, hal, Bool.true_and, decide_eq_true_eq] at this
          omega
        · omega
      have hbx : lost = 0 → (bestU bs x).getD (ixH x) 0 = x.ver := fun h0 => by
        unfold bestU
        split
        · rw [getD_setI _ _ _ _ (by rw [h.size]; exact hix), if_pos rfl]
        · have := hle h0; omega
      have hbo : ∀ i, i ≠ ixH x → (bestU bs x).getD i 0 = bs.getD i 0 := fun i hi => by
        unfold bestU
        split
        · rw [getD_setI _ _ _ _ (by rw [h.size]; exact hix), if_neg (fun e => hi e.symm)]
        · rfl
      refine ⟨hput, h.apart.put x, by omega, h.lo, by rw [bestU_length]; exact h.size, fun h0 y hy => ?_, fun h0 i hi => ?_, fun h0 => ?_⟩
      · rcases List.mem_append.1 hy with hy | hy
        · obtain ⟨hy1, hy2⟩ := List.mem_filter.1 hy
          rw [hbo _ (fun e => by
            have := (ixH_eq hx (h.ok y hy1)).1 e.symm
            rw [unlikeH, this] at hy2
            cases hy2)]
          exact h.best h0 y hy1
        · rw [List.mem_singleton.1 hy]; exact hbx h0
      · by_cases hii : i = ixH x
        · exact ⟨x, by simp [putL], hii.symm⟩
        · rw [hbo i hii] at hi
          obtain ⟨y, hy, hyi⟩ := h.some h0 i hi
          refine ⟨y, List.mem_append_left _ (List.mem_filter.2 ⟨hy, ?_⟩), hyi⟩
          rw [unlikeH, Bool.not_eq_true', ← Bool.not_eq_true]
          intro hal
          exact hii (by rw [← hyi]; exact ((ixH_eq hx (h.ok y hy)).2 hal).symm)
      · have hmany := h.many h0
        have hpl : (putL l x).length = (l.filter (unlikeH x)).length + 1 := by rw [putL, List.length_append, List.length_singleton]
        by_cases hp : 0 < bs.getD (ixH x) 0
        · obtain ⟨y, hy, hyi⟩ := h.some h0 _ hp
          have h1 := filter_one l x y h.apart hy ((ixH_eq hx (h.ok y hy)).1 hyi.symm)
          have h2 : cnt (bestU bs x) = cnt bs := by
            unfold bestU
            split
            · rw [cnt_set _ _ _ (by rw [h.size]; exact hix) (by omega), if_pos hp]
            · rfl
          omega
        · have h1 : l.filter (unlikeH x) = l := filter_all (fun y hy => by
            rw [unlikeH, Bool.not_eq_true', ← Bool.not_eq_true]
            intro hal
            have hb := h.best h0 y hy
            rw [← (ixH_eq hx (h.ok y hy)).2 hal] at hb
            have := (hintOk_true.1 (h.ok y hy)).2.2.1
            omega)
          have h2 : cnt (bestU bs x) = cnt bs + 1 := by
            rw [bestU, if_pos (by omega), cnt_set _ _ _ (by rw [h.size]; exact hix) (by omega), if_neg hp]
          rw [h1] at hpl
          omega
/-- an element of a part, by how many of the part are ahead of it -/
theorem filter_at {α : Type} (p : α → Bool) (z : α) (l : List α) (i : Nat) (hi : i < l.length) (hp : p (l.getD i z) = true) :
    ((l.take i).filter p).length < (l.filter p).length ∧ (l.filter p).getD ((l.take i).filter p).length z = l.getD i z := by
  have h1 : l = l.take i ++ l.getD i z :: l.drop (i + 1) := by
    rw [← drop_consD z hi, List.take_append_drop]
  have h2 : l.filter p = (l.take i).filter p ++ l.getD i z :: (l.drop (i + 1)).filter p := by
    conv => lhs; rw [h1]
    rw [List.filter_append, List.filter_cons_of_pos hp]
  rw [h2]
  refine ⟨by simp, ?_⟩
  rw [List.getD, List.getElem?_append_right (by omega)]
  simp
theorem cnt_take (bs : List Int) (k : Nat) (hk : k < bs.length) : cnt (bs.take (k + 1)) = if 0 < bs.getD k 0 then cnt (bs.take k) + 1 else cnt (bs.take k) := by
  rw [take_snocD 0 hk, cnt_snoc]
end Go.Proofs.Ytjhphagcmiggdaa
