/-
  THE REFERENCE's Line: what any line is answered, and what it leaves. CONDITIONS: none.
-/
import Derived.Test.YtemhdfodghfkfaaGreatDoorRefWs
import Derived.Test.YtemhdfodghfkfaaGreatDoorRefWp
import Derived.Test.YtemhdfodghfkfaaGreatDoorRefWg
import Derived.Test.YtemhdfodghfkfaaGreatDoorRefWc
import Derived.Test.YtemhdfodghfkfaaGreatDoorRefWo
namespace Go.Proofs.YtemhdfodghfkfaaGreatDoor
open Go.RowKit
open Go.ChangeShapes Go.WideShapes Go.ChangeAt

theorem rline_any {base m : Nat} {A : Nat → Prop} {S : RSt} (l : Tx) (hl : l.length ≤ 3000) (w : World) (h : RMeshW base w m S.D S.C A) (hB : base ≤ w.heap.size) (hA : ∀ i, A i → i < w.heap.size) (hC : S.C.length ≤ 6) :
    Calls Tryz.prog 8 #[.pointer (some ⟨m, 0, none⟩), .string (mkB l)] w (RLineR base m A w (S.line l)) := by
  obtain ⟨hd, tl, hcs⟩ : ∃ hd tl, cutC 32 l = hd :: tl := by
    cases hc : cutC 32 l with
    | nil => exact absurd hc (cutC_ne 32 l)
    | cons a r => exact ⟨a, r, rfl⟩
  by_cases h0 : hd = putW
  · subst h0; exact rline_put l hl tl hcs w h hB hA hC
  by_cases h1 : hd = deleteW
  · subst h1; exact rline_delete l hl tl hcs w h hB hA hC
  by_cases h2 : hd = swapW
  · subst h2; exact rline_swap l hl tl hcs w h hB hA hC
  by_cases h3 : hd = getW
  · subst h3; exact rline_get l hl tl hcs w h hB hA hC
  by_cases h4 : hd = seqW
  · subst h4; exact rline_seq l hl tl hcs w h hB hA hC
  by_cases h5 : hd = cacheW
  · subst h5; exact rline_cache l hl tl hcs w h hB hA hC
  by_cases h6 : hd = ownerW
  · subst h6; exact rline_owner l hl tl hcs w h hB hA hC
  exact rline_other l hl hd tl hcs h0 h1 h2 h3 h4 h5 h6 w h
theorem line_keep (S : RSt) (l : Tx) : (S.line l).2.C.length = S.C.length := by
  unfold RSt.line
  split
  · rfl
  · rename_i w n t _
    unfold RSt.act
    repeat' split
    all_goals first | exact deed_len _ _ _ _ | exact mgetR_len _ _ _ _ _ | exact (mswapR_facts _ _ _).1 | rfl
end Go.Proofs.YtemhdfodghfkfaaGreatDoor
