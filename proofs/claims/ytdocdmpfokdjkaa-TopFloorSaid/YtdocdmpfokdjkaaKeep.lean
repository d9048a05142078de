/-
  TWO SLICES OF THE CALL's OWN, of unlike elements, do not share a block. It proves no statement by itself. CONDITIONS: none.
-/
import Derived.Test.YtdocdmpfokdjkaaKit
namespace Go.Proofs.Ytdocdmpfokdjkaa
open Go.RowKit
open Go.ChangeShapes Go.WideShapes Go.ChangeAt

/-- two slices of the call's own, of unlike elements -/
theorem Ow.typ {α : Type} {cells : α → List Value} {n base : Nat} {T : TypeId} {w : World} {v : Value} {l : List α} (h : Ow cells n base T w v l) {g : Nat} (hg : foot v = some g) : ∃ cur, Blk w g T cur := by
  obtain ⟨A, cap, rfl, _, _, rfl | ⟨g', off, cur, rfl, hb, hB, _⟩⟩ := h
  · cases A <;> cases hg
  · cases cap with
    | zero => cases hg
    | succ c => cases hg; exact ⟨cur, hB⟩
theorem Ow.keep {α β : Type} {cells : α → List Value} {cells2 : β → List Value} {n n2 base base2 : Nat} {T T2 : TypeId} {w w' : World} {v v2 : Value} {l : List α} {l2 : List β} (h : Ow cells n base T w v l) (h2 : Ow cells2 n2 base2 T2 w v2 l2) (hT : T ≠ T2) (hf : Fr (fun k => some k = foot v) w w') : Ow cells2 n2 base2 T2 w' v2 l2 :=
  h2.fr hf (fun g hg hs => by
    obtain ⟨c1, h1⟩ := h.typ hs.symm
    obtain ⟨c2, h2⟩ := h2.typ hg
    exact hT (h1.eq_ h2).2)
end Go.Proofs.Ytdocdmpfokdjkaa
