/-
  A BRIDGE between slices of the call's own and the worlds in which the library's sorts pass (rows of elements of n cells); and what the insertion sort leaves of a list in order. It proves no statement by itself. CONDITIONS: none.
-/
import Derived.Test.YtmgiecoeeidgoaaGreatDoorKit
import Derived.Shelf.SlSortCmp.InsertionK
import Derived.Sort.LotA
namespace Go.Proofs.YtmgiecoeeidgoaaGreatDoor
open Go.RowKit
open Go.ChangeShapes Go.WideShapes Go.ChangeAt
open Go.Sort (HoldsK Holds flatK grow putRow putRowK mapBlock putCells onCells swp PermIn SortedIn insInner insOuter insertionSort SWO)

section
variable {α : Type} [Inhabited α] {cells : α → List Value} {n base : Nat} {T : TypeId} {w : World} {l : List α} {g off len cap : Nat}
theorem get_bang {β : Type} [Inhabited β] {a : Array β} {i : Nat} {v : β} (h : a[i]? = some v) : a[i]! = v := by
  rw [getElem!_def, h]
theorem list_bang {β : Type} [Inhabited β] {a : List β} {i : Nat} {v : β} (h : a[i]? = some v) : a[i]! = v := by
  rw [getElem!_def, h]
theorem Ow.holdsK (hlen : ∀ a, (cells a).length = n) (hn : 0 < n) (h : Ow cells n base T w (.slice (some ⟨g, off, none⟩) len cap) l) (hl : 0 < l.length) :
    HoldsK cells n w g off l.toArray ∧ g < w.heap.size := by
  obtain ⟨A, cap', hv, h1, h2, h3⟩ := h
  cases hv
  rcases h3 with rfl | ⟨g', off', cur, hA, hb', hB, h3, h4⟩
  · omega
  · cases hA
    refine ⟨fun j hj => ?_, hB.lt⟩
    have hj' : j < l.length * n := by simpa using hj
    have hq : j / n < l.length := Nat.div_lt_of_lt_mul (by rw [Nat.mul_comm]; exact hj')
    have hm : j % n < n := Nat.mod_lt _ hn
    have hdm : off + j / n * n + j % n = off + j := by have := Nat.div_add_mod j n; rw [Nat.mul_comm] at this; omega
    refine ⟨?_, hB.frozen _⟩
    have hc := h4 _ hq _ hm
    rw [hdm] at hc
    rw [hB.cell, hc, Go.Sort.get_flatK _ _ _ _ (by simpa using hj')]
    have e1 : (l.toArray)[j / n]! = l[j / n] := get_bang (by simp [hq])
    rw [e1, List.getElem?_eq_getElem (by rw [hlen]; exact hm), list_bang (List.getElem?_eq_getElem (by rw [hlen]; exact hm))]
    rfl
theorem fr_grow {S : Nat → Prop} (w : World) (os : Array Obj) : Fr S w (grow w os) :=
  ⟨rfl, rfl, rfl, by simp, fun k hk _ => Go.Sort.heap_grow_old w os hk⟩
theorem fr_sortWorldK (m : Nat) (d' : Array α) (os : Array Obj) : Fr (fun k => k = g) w (sortWorldK cells n w g off m d' os) := by
  refine Fr.step (b := putRowK cells n (Go.Sort.ahead w m) g off d') ⟨rfl, rfl, rfl, by simp [Go.Sort.size_putRowK], fun k hk hn => ?_⟩ (fr_grow _ _)
  show (w.heap.modify g _)[k]? = _
  rw [Array.getElem?_modify, if_neg (fun e => hn e.symm)]
theorem Ow.sorted (hlen : ∀ a, (cells a).length = n) (hn : 0 < n) (h : Ow cells n base T w (.slice (some ⟨g, off, none⟩) len cap) l) (hl : 0 < l.length) (m : Nat) (d' : Array α) (os : Array Obj) (hs : d'.size = l.length) :
    Ow cells n base T (sortWorldK cells n w g off m d' os) (.slice (some ⟨g, off, none⟩) len cap) d'.toList := by
  obtain ⟨A, cap', hv, h1, h2, h3⟩ := h
  cases hv
  rcases h3 with rfl | ⟨g', off', cur, hA, hb', hB, h3, h4⟩
  · omega
  · cases hA
    have hin : l.length * n ≤ cap * n := Nat.mul_le_mul_right _ h1
    have hB' : Blk (putRowK cells n (Go.Sort.ahead w m) g off d') g T (putCells id off (flatK cells n d') cur) := by
      show (w.heap.modify g _)[g]? = _
      rw [Array.getElem?_modify, if_pos rfl, show w.heap[g]? = _ from hB]
      rfl
    have hB2 : Blk (sortWorldK cells n w g off m d' os) g T (putCells id off (flatK cells n d') cur) :=
      hB'.fr (S := fun _ => False) (fr_grow _ _) (fun h => h)
    have hdl : d'.toList.length = l.length := by rw [Array.length_toList, hs]
    refine ⟨_, cap, by rw [hdl], by rw [hdl]; exact h1, h2, .inr ⟨g, off, _, rfl, hb', hB2, by simp [putCells]; exact h3, fun i hi f hf => ?_⟩⟩
    have hi' : i < d'.size := by simpa using hi
    have hlt : i * n + f < d'.size * n := by
      have := mul_in (n := n) hi' (Nat.le_refl _)
      omega
    rw [putCells, Array.getElem?_mapIdx, Array.getElem?_eq_getElem (by rw [hs] at hlt; omega), Option.map_some, if_pos ⟨by omega, by rw [Go.Sort.size_flatK]; omega⟩, show off + i * n + f - off = i * n + f by omega, Go.Sort.get_flatK _ _ _ _ hlt]
    have hd : (i * n + f) / n = i := by rw [Nat.mul_comm, Nat.mul_add_div hn, Nat.div_eq_of_lt hf, Nat.add_zero]
    have hm : (i * n + f) % n = f := by rw [Nat.mul_comm, Nat.mul_add_mod, Nat.mod_eq_of_lt hf]
    have e1 : d'[i]! = d'.toList[i] := by rw [get_bang (Array.getElem?_eq_getElem hi')]; simp
    rw [hd, hm, e1, List.getElem?_eq_getElem (by rw [hlen]; exact hf), list_bang (List.getElem?_eq_getElem (by rw [hlen]; exact hf))]
    rfl
end

/-! ### the insertion sort of what lies in an order of its own: that order decides between equals -/
section
variable {α : Type} [Inhabited α] (lt lt' : α → α → Bool) (R : α → α → Prop)
theorem swp_at (d : Array α) {i j : Nat} (hi : i < d.size) (hj : j < d.size) (k : Nat) : (swp d i j)[k]! = if k = j then d[i]! else if k = i then d[j]! else d[k]! := Go.Sort.swp_get d hi hj k
/-- R: what lies ahead; where the later one is asked, both orders say the same -/
theorem insInner_two (hlt : ∀ x y, R x y → lt y x = lt' y x) : ∀ (j : Nat) (d : Array α), j < d.size → (∀ p, p < j → R d[p]! d[j]!) →
    insInner lt 0 j d = insInner lt' 0 j d ∧ (insInner lt 0 j d).size = d.size ∧ (∀ q, j < q → (insInner lt 0 j d)[q]! = d[q]!) ∧ ∀ p, p ≤ j → ∃ p', p' ≤ j ∧ (insInner lt 0 j d)[p]! = d[p']!
  | 0, d, _, _ => ⟨rfl, rfl, fun _ _ => rfl, fun p hp => ⟨p, hp, rfl⟩⟩
  | j + 1, d, hj, hR => by
    have hx := hlt _ _ (hR j (by omega))
    unfold insInner
    rw [hx]
    by_cases hc : (decide (j + 1 > 0) && lt' d[j + 1]! d[j]!) = true
    · rw [if_pos hc, if_pos hc]
      have hsw := fun k => swp_at d hj (show j < d.size by omega) k
      obtain ⟨h1, h2, h3, h4⟩ := insInner_two hlt j (swp d (j + 1) j) (by rw [Go.Sort.swp_size]; omega) (fun p hp => by
        rw [hsw, hsw, if_neg (by omega), if_neg (by omega), if_pos rfl]
        exact hR p (by omega))
      refine ⟨h1, by rw [h2, Go.Sort.swp_size], fun q hq => ?_, fun p hp => ?_⟩
      · rw [h3 q (by omega), hsw, if_neg (by omega), if_neg (by omega)]
      · by_cases hpj : p ≤ j
        · obtain ⟨p', hp', he⟩ := h4 p hpj
          rw [he, hsw]
          by_cases h5 : p' = j
          · rw [if_pos h5]; exact ⟨j + 1, Nat.le_refl _, rfl⟩
          · rw [if_neg h5, if_neg (by omega)]; exact ⟨p', by omega, rfl⟩
        · obtain rfl : p = j + 1 := by omega
          rw [h3 _ (by omega), hsw, if_neg (by omega), if_pos rfl]
          exact ⟨j, by omega, rfl⟩
    · rw [if_neg hc, if_neg hc]
      exact ⟨rfl, rfl, fun _ _ => rfl, fun p hp => ⟨p, hp, rfl⟩⟩
theorem insOuter_two (hlt : ∀ x y, R x y → lt y x = lt' y x) (b : Nat) : ∀ (k i : Nat) (d : Array α), b - i = k → b = d.size → (∀ p q, p < q → i ≤ q → q < b → R d[p]! d[q]!) → insOuter lt 0 b i d = insOuter lt' 0 b i d
  | 0, i, d, hk, hb, hR => by
    unfold insOuter
    rw [if_neg (by omega), if_neg (by omega)]
  | k + 1, i, d, hk, hb, hR => by
    obtain ⟨h1, h2, h3, h4⟩ := insInner_two lt lt' R hlt i d (by omega) (fun p hp => hR p i hp (Nat.le_refl _) (by omega))
    have e1 : ∀ f : α → α → Bool, insOuter f 0 b i d = insOuter f 0 b (i + 1) (insInner f 0 i d) := fun f => by
      rw [insOuter, if_pos (by omega)]
    rw [e1, e1, ← h1]
    refine insOuter_two hlt b k (i + 1) _ (by omega) (by rw [h2]; exact hb) (fun p q hpq hq hqb => ?_)
    rw [h3 q (by omega)]
    by_cases hp : p ≤ i
    · obtain ⟨p', hp', he⟩ := h4 p hp
      rw [he]
      exact hR p' q (by omega) (by omega) hqb
    · rw [h3 p (by omega)]
      exact hR p q hpq (by omega) hqb
/-- the insertion sort of a list whose elements lie in the order R, by lt: it is in order by lt' -/
theorem insertionSort_two (hlt : ∀ x y, R x y → lt y x = lt' y x) (hS : SWO lt') (l : List α) (hR : l.Pairwise R) :
    (insertionSort lt l.toArray 0 l.length).toList.Perm l ∧ (insertionSort lt l.toArray 0 l.length).toList.Pairwise (fun x y => lt' y x = false) := by
  have hat : ∀ p q, p < q → q < l.length → R l.toArray[p]! l.toArray[q]! := fun p q hpq hq => by
    rw [get_bang (show l.toArray[p]? = some l[p] by simp), get_bang (show l.toArray[q]? = some l[q] by simp [hq])]
    exact List.pairwise_iff_getElem.1 hR p q (by omega) hq hpq
  have e : insertionSort lt l.toArray 0 l.length = insertionSort lt' l.toArray 0 l.length :=
    insOuter_two lt lt' R hlt l.length _ 1 l.toArray rfl (by simp) (fun p q hpq _ hq => hat p q hpq hq)
  rw [e]
  clear e
  obtain ⟨h1, h2⟩ := Go.Sort.insertionSort_holds (lt := lt') hS l.toArray 0 l.length (Nat.zero_le _) (by simp)
  obtain ⟨hs, _, hp⟩ := h1
  have hsz : (insertionSort lt' l.toArray 0 l.length).size = l.length := by rw [hs]; simp
  constructor
  · have e1 : ∀ X : Array α, X.size = l.length → X.extract 0 l.length = X := fun X hX => by
      rw [← hX]; exact Array.extract_size
    rw [e1 _ hsz, e1 _ (by simp)] at hp
    simpa using hp
  · rw [List.pairwise_iff_getElem]
    intro i j hi hj hij
    have hj' : j < l.length := by rw [← hsz]; simpa using hj
    have := h2 i j (Nat.zero_le _) hij hj'
    rw [get_bang (Array.getElem?_eq_getElem (show i < _ by simpa using hi)), get_bang (Array.getElem?_eq_getElem (show j < _ by simpa using hj))] at this
    simpa using this
end
end Go.Proofs.YtmgiecoeeidgoaaGreatDoor
