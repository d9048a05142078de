/-
  CONTRACTS of cache.Add, cache.All, cache.Both. CONDITIONS: none.
-/
import Derived.Test.YtdocdmpfokdjkaaESame
import Derived.Test.YtdocdmpfokdjkaaCAddO
import Derived.Test.YtdocdmpfokdjkaaCLaw
namespace Go.Proofs.Ytdocdmpfokdjkaa
open Go.RowKit
open Go.ChangeShapes Go.WideShapes Go.ChangeAt

theorem chk_goodE {e : E} (h : chk e = 0) : e.good := by
  obtain ⟨h1, h2, h3, _, h5, _⟩ := chk_zero.1 h
  have := keyB_true.1 h1
  have := seqB_true.1 h2
  have := seqB_true.1 h3
  exact ⟨by omega, by omega, by omega, by unfold maxLen; omega⟩
theorem val_good {l : List E} (h : chkC l = 0) : ∀ e ∈ l, e.good := fun e he => chk_goodE ((val_iff.1 h).2 e he)
theorem val_facts {l : List E} (h : chkC l = 0) : SortedK l ∧ KeysIn l ∧ l.length ≤ 8 := by
  obtain ⟨h1, _, h3, h4⟩ := chkC_ok h
  exact ⟨h3, h4, h1⟩
/-- what Add tells, and leaves -/
def addR (l : List E) (e : E) : List E × Bool × Int :=
  if chkC l = 0 then (if chk e = 0 then (if (addC l e).2 = 0 then ((addC l e).1, !eqsE (addC l e).1 l, 0) else ([], false, (addC l e).2)) else ([], false, chk e)) else ([], false, chkC l)
def ARes (w : World) (r : List E × Bool × Int) (e : Ending) (w' : World) : Prop :=
  ∃ v, e = .returned (.tuple #[v, .bool r.2.1, errV r.2.2]) ∧ Ow E.cells 5 w.heap.size 47 w' v r.1 ∧ Below w.heap.size w w'

/-- what a call that hands out both of two does -/
theorem CRes.under {W w : World} {l : List E} {en : Int} {e : Ending} {w' : World} (h : CRes w l en e w') (hb : Below W.heap.size W w) : CRes W l en e w' := by
  obtain ⟨v, h1, h2, h3⟩ := h
  exact ⟨v, h1, h2.mono hb.size, Below.step hb h3 hb.size⟩
end Go.Proofs.Ytdocdmpfokdjkaa
