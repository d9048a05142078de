/-
  PLAIN LAWS of floors, and what a frame around one block keeps. CONDITIONS: none.
-/
import Derived.Test.YtdocdmpfokdjkaaFloor
namespace Go.Proofs.Ytdocdmpfokdjkaa
open Go.RowKit

theorem fcell {F : Nat} {W w1 : World} (h : Fr (fun x => x = F) W w1) : (∀ b o, b < W.heap.size → b ≠ F → w1.cell? ⟨b, o, none⟩ = W.cell? ⟨b, o, none⟩) ∧ (∀ b o, b < W.heap.size → b ≠ F → w1.frozen? ⟨b, o, none⟩ = W.frozen? ⟨b, o, none⟩) :=
  ⟨fun b o h1 h2 => h.cell (p := ⟨b, o, none⟩) h1 h2, fun b o h1 h2 => h.frozen (p := ⟨b, o, none⟩) h1 h2⟩
theorem Below.stepFr {B F : Nat} {a w w' : World} (h : Below B a w) (hb : Fr (fun x => x = F) w w') (hB : B ≤ w.heap.size) (hF : B ≤ F) : Below B a w' :=
  h.trans (hb.below hB (fun i hi e => by have : i = F := e; omega))

theorem chk_facts0 {k v a : Int} {g : Bool} {t : ByteArray} (h : chk ⟨k, v, a, g, t⟩ = 0) : 0 ≤ a := (seqB_true.1 (chk_zero.1 h).2.2.1).1
theorem getD_set (l : List Int) (i j : Nat) (u : Int) (hi : i < l.length) : (l.set i u).getD j 0 = if i = j then u else l.getD j 0 := by
  simp only [List.getD, List.getElem?_set]
  by_cases h : i = j
  · rw [if_pos h, if_pos h, if_pos hi]
    rfl
  · rw [if_neg h, if_neg h]
theorem raiseL_get {fs : List Int} {k s : Int} {j : Nat} (hl : fs.length = 8) (ho : okB k s = true) : (raiseL fs k s).getD j 0 = if k.toNat = j then max (fs.getD k.toNat 0) s else fs.getD j 0 := by
  have hk : keyB k = true := by simp [okB] at ho; exact ho.1
  rw [keyB_true] at hk
  rw [raiseL, if_pos ho, getD_set _ _ _ _ (by omega)]
theorem allL_get {fs : List Int} {s : Int} (hl : fs.length = 8) (hs : seqB s = true) (n : Nat) (hn : n ≤ 8) (j : Nat) : (allL fs s n).getD j 0 = if j < n then max (fs.getD j 0) s else fs.getD j 0 := by
  induction n with
  | zero => simp [allL]
  | succ n ih =>
    have hk : keyB (n : Int) = true := keyB_true.2 (by omega)
    rw [allL, raiseL_get (by rw [allL_length]; exact hl) (by simp [okB, hk, hs]), ih (by omega), Int.toNat_natCast]
    by_cases h1 : n = j
    · subst h1
      rw [if_pos rfl, if_pos (by omega), ih (by omega), if_neg (by omega)]
    · rw [if_neg h1]
      by_cases h2 : j < n
      · rw [if_pos h2, if_pos (by omega)]
      · rw [if_neg h2, if_neg (by omega)]
theorem zeros_get (j : Nat) : (List.replicate 8 (0 : Int)).getD j 0 = 0 := by
  simp only [List.getD, List.getElem?_replicate]
  split <;> rfl

/-- a floor has only risen -/
def Up (fs fs' : List Int) : Prop := fs'.length = 8 ∧ ∀ j : Nat, fs.getD j 0 ≤ fs'.getD j 0
theorem Up.raise {fs : List Int} (hl : fs.length = 8) (k s : Int) : Up fs (raiseL fs k s) := by
  refine ⟨by rw [raiseL_length, hl], fun j => ?_⟩
  rcases ho : okB k s with _ | _
  · rw [raiseL, if_neg (by simp [ho])]
    exact Int.le_refl _
  · rw [raiseL_get hl ho]
    split
    · rename_i h
      rw [h]
      omega
    · exact Int.le_refl _
theorem Up.all {fs : List Int} (hl : fs.length = 8) (s : Int) : Up fs (if seqB s = true then allL fs s 8 else fs) := by
  split
  · rename_i h
    refine ⟨by rw [allL_length, hl], fun j => ?_⟩
    rw [allL_get hl h 8 (Nat.le_refl _)]
    split
    · omega
    · exact Int.le_refl _
  · exact ⟨hl, fun _ => Int.le_refl _⟩
theorem mix_get (fs fs' : List Int) (k : Nat) (hl' : fs'.length = 8) (hk : k < 8) : (fs'.take k ++ fs.drop k).getD k 0 = fs.getD k 0 := by
  simp only [List.getD]
  rw [List.getElem?_append_right (by simp; omega), List.getElem?_drop]
  simp
  rw [show k + (k - min k fs'.length) = k by omega]
theorem mix_set (fs fs' : List Int) (k : Nat) (hl : fs.length = 8) (hl' : fs'.length = 8) (hk : k < 8) : (fs'.take k ++ fs.drop k).set k (fs'.getD k 0) = fs'.take (k + 1) ++ fs.drop (k + 1) := by
  apply List.ext_getElem?
  intro i
  simp only [List.getElem?_set, List.getElem?_append, List.length_take, List.getElem?_take, List.getElem?_drop, List.length_append, List.length_drop, List.getD]
  by_cases h : k = i
  · subst h
    rw [if_pos rfl, if_pos (by omega), if_pos (by omega), if_pos (by omega), List.getElem?_eq_getElem (by omega)]
    rfl
  · rw [if_neg h]
    by_cases h2 : i < k
    · rw [if_pos (by omega), if_pos (by omega), if_pos (by omega), if_pos (by omega)]
    · rw [if_neg (by omega), if_neg (by omega)]
      congr 1
      omega
end Go.Proofs.Ytdocdmpfokdjkaa
