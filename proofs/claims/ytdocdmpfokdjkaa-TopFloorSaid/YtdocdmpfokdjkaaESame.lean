/-
  CONTRACTS of slices.Equal at api.Entry and of meresame.Cache. CONDITIONS: none.
-/
import Derived.Test.YtdocdmpfokdjkaaEKit
import Derived.Laws.StructEq
import Derived.Deep.QuietTactic
import Derived.BigQuiet
namespace Go.Proofs.Ytdocdmpfokdjkaa
open Go.RowKit
open Go.ChangeShapes Go.WideShapes Go.ChangeAt

def eqbE (y x : E) : Bool := decide (y.key = x.key ∧ y.ver = x.ver ∧ y.asof = x.asof ∧ y.gone = x.gone ∧ y.text.toList = x.text.toList)
theorem eqbE_refl (x : E) : eqbE x x = true := by simp [eqbE]
set_option maxHeartbeats 2000000 in
theorem eqRunE (y0 : Int) (y1 : Int) (y2 : Int) (y3 : Bool) (y4 : ByteArray) (x0 : Int) (x1 : Int) (x2 : Int) (x3 : Bool) (x4 : ByteArray) (w : World) : (Op.equalIn 10000 47 (.agg #[.int .i64 y0, .int .i64 y1, .int .i64 y2, .bool y3, .string y4]) (.agg #[.int .i64 x0, .int .i64 x1, .int .i64 x2, .bool x3, .string x4])).run Try.prog w = .ok (eqbE ⟨y0, y1, y2, y3, y4⟩ ⟨x0, x1, x2, x3, x4⟩) w := by
  have hS : Try.prog.underlying 47 = some (.struct (Try.prog.fieldsOf 47)) := by kernel_rfl
  have hp : Try.prog.stoodInHeld 47 = false := by kernel_rfl
  rw [show (10000 : Nat) = 9999 + 1 from rfl, run_equalIn_agg w 9999 47 _ _ hS hp]
  simp only [Program.fieldsOf, Try.underlying47]
  go_simp
  unfold eqbE
  simp only []
  repeat' split
  all_goals simp_all
def eqsE (l m : List E) : Bool := decide (l.length = m.length) && (List.range l.length).all fun i => eqbE (l.getD i E.zero) (m.getD i E.zero)
theorem eqsE_len {l m : List E} (h : l.length ≠ m.length) : eqsE l m = false := by simp [eqsE, h]
theorem eqsE_at {l m : List E} {i : Nat} (hi : i < l.length) (h : eqbE (l.getD i E.zero) (m.getD i E.zero) = false) : eqsE l m = false := by
  rw [← Bool.not_eq_true]
  intro ha
  unfold eqsE at ha
  rw [Bool.and_eq_true, List.all_eq_true] at ha
  have := ha.2 i (List.mem_range.2 hi)
  simp only [h] at this
  cases this
theorem eqsE_all {l m : List E} (hl : l.length = m.length) (h : ∀ i, i < l.length → eqbE (l.getD i E.zero) (m.getD i E.zero) = true) : eqsE l m = true := by
  unfold eqsE
  rw [Bool.and_eq_true, List.all_eq_true]
  exact ⟨by simp [hl], fun i hi => h i (List.mem_range.1 hi)⟩
theorem eqsE_refl (l : List E) : eqsE l l = true := eqsE_all rfl (fun _ _ => eqbE_refl _)
end Go.Proofs.Ytdocdmpfokdjkaa
