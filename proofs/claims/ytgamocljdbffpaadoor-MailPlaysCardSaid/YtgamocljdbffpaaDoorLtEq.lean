/-
  WHAT '==' SAYS OF TWO LETTERS. CONDITIONS: none.
-/
import Derived.Test.YtgamocljdbffpaaDoorMailTy
import Derived.Laws.StructEq
namespace Go.Proofs.YtgamocljdbffpaaDoor
open Go.RowKit
open Go.ChangeShapes Go.WideShapes Go.ChangeAt

def eqbLt (y x : Lt) : Bool := decide (y.frm = x.frm ∧ y.dst = x.dst ∧ y.key = x.key ∧ y.ver = x.ver ∧ y.asof = x.asof ∧ y.gone = x.gone ∧ y.text.toList = x.text.toList)
theorem eqbLt_refl (x : Lt) : eqbLt x x = true := by simp [eqbLt]
set_option maxHeartbeats 2000000 in
theorem eqRunLt (y0 : Int) (y1 : Int) (y2 : Int) (y3 : Int) (y4 : Int) (y5 : Bool) (y6 : ByteArray) (x0 : Int) (x1 : Int) (x2 : Int) (x3 : Int) (x4 : Int) (x5 : Bool) (x6 : ByteArray) (w : World) : (Op.equalIn 10000 37 (.agg #[.int .i64 y0, .int .i64 y1, .int .i64 y2, .int .i64 y3, .int .i64 y4, .bool y5, .string y6]) (.agg #[.int .i64 x0, .int .i64 x1, .int .i64 x2, .int .i64 x3, .int .i64 x4, .bool x5, .string x6])).run Tryd.prog w = .ok (eqbLt ⟨y0, y1, y2, y3, y4, y5, y6⟩ ⟨x0, x1, x2, x3, x4, x5, x6⟩) w := by
  have hS : Tryd.prog.underlying 37 = some (.struct (Tryd.prog.fieldsOf 37)) := by kernel_rfl
  have hp : Tryd.prog.stoodInHeld 37 = false := by kernel_rfl
  rw [show (10000 : Nat) = 9999 + 1 from rfl, run_equalIn_agg w 9999 37 _ _ hS hp]
  simp only [Program.fieldsOf, Tryd.underlying37]
  go_simp
  unfold eqbLt
  simp only []
  repeat' split
  all_goals simp_all
end Go.Proofs.YtgamocljdbffpaaDoor
