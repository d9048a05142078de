/-
  PLAIN LAWS between the program's store and the reference's. CONDITIONS: none.
-/
import Derived.Test.YtjnbghpeaimmcaaDoorRStore
import Derived.Deep.CutBlock
import Derived.Deep.RegionHeld3
namespace Go.Proofs.YtjnbghpeaimmcaaDoor
open Go.RowKit
open Go.ChangeShapes Go.WideShapes Go.ChangeAt

theorem lsOf_last {D : List E} {key : Int} (hk : keyB key = true) : lastC ((lsOf D).getD key.toNat []) (D.length : Int) = refC D key := by
  obtain ⟨h0, h8⟩ := keyB_true.1 hk
  rw [lsOf_get D _ (by omega), show ((key.toNat : Nat) : Int) = key by omega]
  rfl
theorem sdone_r (D : List E) (key : Int) (hk : keyB key = true) (g : Bool) (t : ByteArray) :
    sdone (lsOf D) D.length key.toNat g t = ((rdone D ⟨key, 0, 0, g, t⟩).1, lsOf (rdone D ⟨key, 0, 0, g, t⟩).2, ((rdone D ⟨key, 0, 0, g, t⟩).2.length : Int)) := by
  obtain ⟨h0, h8⟩ := keyB_true.1 hk
  by_cases h : D.length = 1000
  · rw [sdone, if_pos (by omega), rdone, if_pos h]; rfl
  · rw [sdone, if_neg (by omega), rdone, if_neg h]
    simp only
    rw [lsOf_snoc D ⟨key, 0, 0, g, t⟩ key.toNat (by omega) (by simp only; omega), List.length_append, List.length_singleton]
    rfl
theorem sput_r (D : List E) (key : Int) (t : ByteArray) : sput (lsOf D) D.length key t = ((rput D key t).1, lsOf (rput D key t).2, ((rput D key t).2.length : Int)) := by
  unfold sput rput
  split
  · rename_i hk
    split
    · rfl
    · exact sdone_r D key hk false t
  · rfl
theorem sdel_r (D : List E) (key : Int) : sdel (lsOf D) D.length key = ((rdel D key).1, lsOf (rdel D key).2, ((rdel D key).2.length : Int)) := by
  unfold sdel rdel
  split
  · rename_i hk
    rw [lsOf_last hk]
    split
    · rfl
    · exact sdone_r D key hk true ⟨#[]⟩
  · rfl
theorem sswap_r (D : List E) (key ver : Int) (t : ByteArray) : sswap (lsOf D) D.length key ver t = ((rswap D key ver t).1, lsOf (rswap D key ver t).2, ((rswap D key ver t).2.length : Int)) := by
  unfold sswap rswap
  split
  · rename_i hk
    split
    · rfl
    · rw [lsOf_last hk]
      split
      · exact sdone_r D key hk false t
      · rfl
  · rfl
def ratS (D : List E) (key q : Int) : E × Int := if keyB key = true ∧ 0 ≤ q ∧ q ≤ (D.length : Int) then (entC key q (refC (D.take q.toNat) key), 0) else (E.zero, 1)
theorem atS_r (D : List E) (key q : Int) : atS (lsOf D) D.length key q = ratS D key q := by
  unfold atS ratS
  split
  · rename_i h
    obtain ⟨hk, h0, hq⟩ := h
    obtain ⟨k0, k8⟩ := keyB_true.1 hk
    obtain ⟨n, rfl⟩ := Int.eq_ofNat_of_zero_le h0
    rw [lsOf_get D _ (by omega), show ((key.toNat : Nat) : Int) = key by omega, lastC_take D key n (by omega), Int.toNat_natCast]
  · rfl

theorem bstep {a W W' : World} (h : Below a.heap.size a W) (k : Below W.heap.size W W') : Below a.heap.size a W' := h.trans (k.mono h.size)
/-- a text -/
def TextV (v : Value) : Prop := ∃ x : ByteArray, x.size ≤ maxLen ∧ v = .string x
/-- the program's store and the reference's, alike and apart -/
def SPair (base s b : Nat) (w : World) (D : List E) : Prop :=
  ∃ vs v, StoreO base w s vs (lsOf D) D.length ∧ StP (lsOf D) D.length ∧ RStoreO base w b v D ∧ ∀ i, FS s vs i → ¬ (i = b ∨ some i = foot v)
theorem SPair.belowS {base s b : Nat} {w w' : World} {D : List E} (h : SPair base s b w D) (hb : Below w.heap.size w w') : SPair base s b w' D := by
  obtain ⟨vs, v, h1, h2, h3, h4⟩ := h
  exact ⟨vs, v, h1.belowS hb, h2, h3.belowS hb, h4⟩
theorem StoreO.fsl {base s : Nat} {w : World} {vs : List Value} {ls : List (List Ch)} {n : Int} (hO : StoreO base w s vs ls n) {i : Nat} (h : FS s vs i) : base ≤ i ∧ i < w.heap.size := by
  rcases h with rfl | ⟨j, hj, h⟩
  · exact ⟨hO.base, hO.lt⟩
  · exact hO.footlt hj h.symm
/-- a deed of both: what it leaves -/
theorem SPair.deed {base s b : Nat} {w w2 w3 : World} {D : List E} {vs : List Value} {v : Value} {e2 e3 : Ending} {r : (Int × Int) × List E}
    (hO : StoreO base w s vs (lsOf D) D.length) (hR : RStoreO base w b v D) (hd : ∀ i, FS s vs i → ¬ (i = b ∨ some i = foot v))
    (h2 : RRes base b v w r e2 w2) (h3 : SRes base s vs w2 (r.1, lsOf r.2, (r.2.length : Int)) e3 w3) :
    SPair base s b w3 r.2 ∧ Fr (fun i => (i = b ∨ some i = foot v) ∨ FS s vs i) w w3 := by
  obtain ⟨v', _, hR2, hF2, hf2⟩ := h2
  obtain ⟨vs', _, hO3, hP3, hF3, hf3⟩ := h3
  have hz2 := hF2.size
  have hz3 := hF3.size
  have hbl := hR.lt
  refine ⟨⟨vs', v', hO3, hP3, hR2.fr hF3 (fun h => ?_) (fun g hg h => ?_), fun i hi => ?_⟩, (hF2.mono (fun i _ h => .inl h)).step (hF3.mono (fun i _ h => .inr h))⟩
  · exact hd _ h (.inl rfl)
  · rcases hf2 with o | ⟨k, o, hk⟩
    · exact hd _ h (.inr (by rw [← o, hg]))
    · rw [hg] at o; cases o
      have := (hO.fsl h).2; omega
  · rcases hf3 i hi with h | h
    · rintro (e | e)
      · exact hd _ h (.inl e)
      · rcases hf2 with o | ⟨k, o, hk⟩
        · exact hd _ h (.inr (by rw [← o, e]))
        · rw [← e] at o; cases o
          have := (hO.fsl h).2; omega
    · rintro (e | e)
      · omega
      · have := (hR2.own.lt e.symm).2; omega

end Go.Proofs.YtjnbghpeaimmcaaDoor
