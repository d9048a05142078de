/-
  CONTRACT of store.Seq. CONDITIONS: none.
-/
import Derived.Test.YtdocdmpfokdjkaaStore2
namespace Go.Proofs.Ytdocdmpfokdjkaa
open Go.RowKit
open Go.ChangeShapes Go.WideShapes Go.ChangeAt

theorem sseq_any (base s : Nat) (vs : List Value) (ls : List (List Ch)) (n : Int) (w : World) (hO : StoreO base w s vs ls n) : Calls Try.prog 34 #[.pointer (some ⟨s, 0, none⟩)] w fun e w' => e = .returned (.int .i64 n) ∧ w = w' := by
  have hs := hO.seq
  go_enter Try.func34, Try.ntmps34
  go_wp2
  go_ret
  exact ⟨rfl, rfl⟩
end Go.Proofs.Ytdocdmpfokdjkaa
