/-
  THE FRAME OF A LAW's ROW AND CARD where the row lists errors.errorType: after the kit's worked example Toyas. CONDITIONS: none.
-/
import Derived.Test.YtmgiecoeeidgoaaGreatDoorTold
import Derived.Test.YtmgiecoeeidgoaaGreatDoorTie
import Derived.Test.YtmgiecoeeidgoaaGreatDoorCards
import Derived.ChangeVars
import Derived.JoinedOf
import Derived.LaidLaws
import Derived.LaidHandle
import Derived.Stop.Joined
namespace Go.Proofs.YtmgiecoeeidgoaaGreatDoor
open Go.ChangeShapes Go.WideShapes Go.RowKit

theorem Tryz.size : Tryz.prog.types.size = 226 := by kernel_rfl

theorem laid_lifted {C : Checked} {F : FuncId} {fn : Func} {s : ChangeSpec} {os : Os} {H : Type} {enc : TypeId × Value → H} {tb : TypeId} {X : World → Prop} (laid : ∀ {H : Type}, List (String × DataW H)) (hX : ∀ W, laidMetH C.prog laid W → X W) (conds : List PathCond)
    (own : ownKnob C.prog.godebug = none) (started : os.Started) (noInit : C.prog.inits.idxOf? F = none) (hfn : C.prog.funcs[F]? = some fn)
    (hl : laidOutB C.prog = true) (hts : fn.params.toList.all (fun t => C.prog.readableRec t && decide (t < C.prog.types.size)) = true) (hres : fn.resultTypes = #[tb]) (htb : C.prog.underlying tb = some .bool) (hvars : s.vars = [])
    (hspec : ∀ ds : List (DataW H), ds.length = fn.params.size → s.fn H ds = { results := [.lit (.bool true)], args := ds, vars := [] })
    (witness : ∃ (w : World) (tape : Tape) (i : Input), w.os = os ∧ (w.forCall tape i).Shaped C.prog ∧ i.vars = [] ∧ Input.okWide C.prog (w.forCall tape i) .any w.heap.size F i ∧
      ((s.pre enc C.prog fn conds false (w.forCall tape i).memory i.args ∧ laidMetH C.prog laid (w.forCall tape i).memory) ∧ sizedMet enc C.prog fn (OpenSpec.ofChange s) false (w.forCall tape i).memory i.args) ∧ ({} : Assume).holds C.prog (lone (Frame.enter C.prog F i.args .normal) [] (w.forCall tape i)))
    (walk : LawWalk C.prog F fn X) :
    ReturnsInHanded {} C os F .any (fun w args => (s.pre enc C.prog fn conds false w args ∧ laidMetH C.prog laid w) ∧ sizedMet enc C.prog fn (OpenSpec.ofChange s) false w args) (s.post enc C.prog fn false true false false) := by
  refine returnsInHanded_of_change_and (C := C) (X := fun w _ => laidMetH C.prog laid w) (fun _ _ _ hh h => h.of_heap hh) own started noInit hfn witness ?_
  intro W base args ds gs before hval hW _ _ hL _
  have hW' := hW
  obtain ⟨p, q, hA, hV, hpq, _, _⟩ := hW
  rw [hvars] at hV
  obtain ⟨rfl, rfl⟩ := trodVars_none hV
  have hlen : ds.length = fn.params.size := trodAll_length hA
  refine (walk W base args H enc ds p hval hA (hX W hL)).mono fun e W' ⟨he, hb⟩ => ?_
  exact ⟨_, he, law_post hl hts hres htb hvars hW' (by rw [List.append_nil]; exact hspec ds hlen) hA hpq hb⟩
end Go.Proofs.YtmgiecoeeidgoaaGreatDoor
