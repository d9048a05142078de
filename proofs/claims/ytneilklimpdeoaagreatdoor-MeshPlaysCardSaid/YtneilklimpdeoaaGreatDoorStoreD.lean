/-
  THE STORE's HISTORY: the deeds in a row, and the program's lists out of it. CONDITIONS: none.
-/
import Derived.Test.YtneilklimpdeoaaGreatDoorStore2
import Derived.Test.YtneilklimpdeoaaGreatDoorEKit
namespace Go.Proofs.YtneilklimpdeoaaGreatDoor
open Go.RowKit
open Go.ChangeShapes Go.WideShapes Go.ChangeAt

/-! ### the reference's row of deeds, and the program's lists out of it -/
def chsOf (D : List E) (k : Int) : List Ch := (D.zipIdx.filter fun p => decide (p.1.key = k)).map fun p => ⟨(p.2 : Int) + 1, p.1.gone, p.1.text⟩
def lsOf (D : List E) : List (List Ch) := (List.range 8).map fun (k : Nat) => chsOf D (k : Int)
theorem chsOf_snoc (D : List E) (e : E) (k : Int) : chsOf (D ++ [e]) k = if e.key = k then chsOf D k ++ [⟨(D.length : Int) + 1, e.gone, e.text⟩] else chsOf D k := by
  unfold chsOf
  rw [List.zipIdx_append, List.filter_append, List.map_append]
  by_cases h : e.key = k <;> simp [h]
theorem lsOf_get (D : List E) (k : Nat) (hk : k < 8) : (lsOf D).getD k [] = chsOf D (k : Int) := by
  unfold lsOf
  rw [List.getD, List.getElem?_map, List.getElem?_range hk]
  rfl
theorem lsOf_snoc (D : List E) (e : E) (k : Nat) (hk : k < 8) (he : e.key = (k : Int)) : lsOf (D ++ [e]) = (lsOf D).set k ((lsOf D).getD k [] ++ [⟨(D.length : Int) + 1, e.gone, e.text⟩]) := by
  rw [lsOf_get D k hk]
  apply List.ext_getElem?
  intro i
  unfold lsOf
  rw [List.getElem?_map, List.getElem?_set, List.length_map, List.length_range, List.getElem?_map]
  by_cases hi : k = i
  · subst hi
    rw [if_pos rfl, if_pos hk, List.getElem?_range hk, Option.map_some, chsOf_snoc, if_pos he]
  · rw [if_neg hi]
    by_cases h8 : i < 8
    · rw [List.getElem?_range h8, Option.map_some, Option.map_some, chsOf_snoc, if_neg (by rw [he]; omega)]
    · rw [List.getElem?_eq_none (by simpa using h8)]
      rfl
/-- what the reference's At computes of the deeds that it looks at -/
def refC (D : List E) (k : Int) : Ch := lastC (chsOf D k) (D.length : Int)
theorem chsOf_seq (D : List E) (k : Int) : ∀ c ∈ chsOf D k, 1 ≤ c.seq ∧ c.seq ≤ (D.length : Int) := by
  refine snoc_ind (P := fun D => ∀ c ∈ chsOf D k, 1 ≤ c.seq ∧ c.seq ≤ (D.length : Int)) D (fun c hc => by cases hc) fun D e ih c hc => ?_
  rw [chsOf_snoc] at hc
  rw [List.length_append, List.length_singleton]
  split at hc
  · rcases List.mem_append.1 hc with hc | hc
    · have := ih c hc; omega
    · rw [List.mem_singleton.1 hc]; simp only; omega
  · have := ih c hc; omega
theorem lastC_ge (l : List Ch) (q r : Int) (h : ∀ c ∈ l, c.seq ≤ q) (hr : q ≤ r) : lastC l r = lastC l q := by
  refine snoc_ind (P := fun l => (∀ c ∈ l, c.seq ≤ q) → lastC l r = lastC l q) l (fun _ => rfl) (fun l c ih h => ?_) h
  rw [lastC_snoc, lastC_snoc, if_pos (by have := h c (by simp); omega), if_pos (h c (by simp))]
theorem refC_snoc (D : List E) (e : E) (k : Int) : refC (D ++ [e]) k = if e.key = k then ⟨(D.length : Int) + 1, e.gone, e.text⟩ else refC D k := by
  unfold refC
  rw [chsOf_snoc, List.length_append, List.length_singleton]
  split
  · rw [lastC_snoc, if_pos (by simp only; omega)]
  · exact lastC_ge _ _ _ (fun c hc => (chsOf_seq D k c hc).2) (by omega)
/-- what came later does not count -/
theorem lastC_take (D : List E) (k : Int) (q : Nat) (hq : q ≤ D.length) : lastC (chsOf D k) (q : Int) = refC (D.take q) k := by
  refine snoc_ind (P := fun D => q ≤ D.length → lastC (chsOf D k) (q : Int) = refC (D.take q) k) D (fun h => ?_) (fun D e ih h => ?_) hq
  · have : q = 0 := by simpa using h
    subst this
    rfl
  · by_cases hl : q ≤ D.length
    · rw [List.take_append_of_le_length hl, ← ih hl, chsOf_snoc]
      split
      · rw [lastC_snoc, if_neg (by simp only; omega)]
      · rfl
    · rw [List.length_append, List.length_singleton] at h
      have : q = D.length + 1 := by omega
      subst this
      rw [List.take_of_length_le (by simp)]
      unfold refC
      rw [List.length_append, List.length_singleton]
theorem lastC_all (D : List E) (k : Int) : lastC (chsOf D k) (D.length : Int) = refC D k := rfl
theorem lsOf_nil : lsOf [] = List.replicate 8 [] := rfl

def rdone (D : List E) (e : E) : (Int × Int) × List E := if D.length = 1000 then ((0, 4), D) else (((D.length : Int) + 1, 0), D ++ [e])
def rput (D : List E) (key : Int) (t : ByteArray) : (Int × Int) × List E := if keyB key = true then (if (12 : Int) < (t.size : Int) then ((0, 4), D) else rdone D ⟨key, 0, 0, false, t⟩) else ((0, 1), D)
def rdel (D : List E) (key : Int) : (Int × Int) × List E := if keyB key = true then (if (refC D key).gone = true then ((0, 5), D) else rdone D ⟨key, 0, 0, true, ⟨#[]⟩⟩) else ((0, 1), D)
def rswap (D : List E) (key ver : Int) (t : ByteArray) : (Int × Int) × List E := if keyB key = true then (if (12 : Int) < (t.size : Int) then ((0, 4), D) else if (refC D key).seq = ver then rdone D ⟨key, 0, 0, false, t⟩ else ((0, 7), D)) else ((0, 1), D)
theorem lsOf_last {D : List E} {key : Int} (hk : keyB key = true) : lastC ((lsOf D).getD key.toNat []) (D.length : Int) = refC D key := by
  obtain ⟨h0, h8⟩ := keyB_true.1 hk
  rw [lsOf_get D _ (by omega), show ((key.toNat : Nat) : Int) = key by omega]
  rfl
theorem sdone_r (D : List E) (key : Int) (hk : keyB key = true) (g : Bool) (t : ByteArray) :
    sdone (lsOf D) D.length key.toNat g t = ((rdone D ⟨key, 0, 0, g, t⟩).1, lsOf (rdone D ⟨key, 0, 0, g, t⟩).2, ((rdone D ⟨key, 0, 0, g, t⟩).2.length : Int)) := by
  obtain ⟨h0, h8⟩ := keyB_true.1 hk
  by_cases h : D.length = 1000
  · rw [sdone, if_pos (by omega), rdone, if_pos h]; rfl
  · rw [sdone, if_neg (by omega), rdone, if_neg h]
    simp only
    rw [lsOf_snoc D ⟨key, 0, 0, g, t⟩ key.toNat (by omega) (by simp only; omega), List.length_append, List.length_singleton]
    rfl
theorem sput_r (D : List E) (key : Int) (t : ByteArray) : sput (lsOf D) D.length key t = ((rput D key t).1, lsOf (rput D key t).2, ((rput D key t).2.length : Int)) := by
  unfold sput rput
  split
  · rename_i hk
    split
    · rfl
    · exact sdone_r D key hk false t
  · rfl
theorem sdel_r (D : List E) (key : Int) : sdel (lsOf D) D.length key = ((rdel D key).1, lsOf (rdel D key).2, ((rdel D key).2.length : Int)) := by
  unfold sdel rdel
  split
  · rename_i hk
    rw [lsOf_last hk]
    split
    · rfl
    · exact sdone_r D key hk true ⟨#[]⟩
  · rfl
theorem sswap_r (D : List E) (key ver : Int) (t : ByteArray) : sswap (lsOf D) D.length key ver t = ((rswap D key ver t).1, lsOf (rswap D key ver t).2, ((rswap D key ver t).2.length : Int)) := by
  unfold sswap rswap
  split
  · rename_i hk
    split
    · rfl
    · rw [lsOf_last hk]
      split
      · exact sdone_r D key hk false t
      · rfl
  · rfl
def ratS (D : List E) (key q : Int) : E × Int := if keyB key = true ∧ 0 ≤ q ∧ q ≤ (D.length : Int) then (entC key q (refC (D.take q.toNat) key), 0) else (E.zero, 1)
theorem atS_r (D : List E) (key q : Int) : atS (lsOf D) D.length key q = ratS D key q := by
  unfold atS ratS
  split
  · rename_i h
    obtain ⟨hk, h0, hq⟩ := h
    obtain ⟨k0, k8⟩ := keyB_true.1 hk
    obtain ⟨n, rfl⟩ := Int.eq_ofNat_of_zero_le h0
    rw [lsOf_get D _ (by omega), show ((key.toNat : Nat) : Int) = key by omega, lastC_take D key n (by omega), Int.toNat_natCast]
  · rfl

theorem bstep {a W W' : World} (h : Below a.heap.size a W) (k : Below W.heap.size W W') : Below a.heap.size a W' := h.trans (k.mono h.size)
/-- a text -/
def TextV (v : Value) : Prop := ∃ x : ByteArray, x.size ≤ maxLen ∧ v = .string x
end Go.Proofs.YtneilklimpdeoaaGreatDoor
