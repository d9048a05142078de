/-
  CONTRACTS of store.Key, entry.Seq, entry.Check and the codec of api.Entry: what they compute, over this seat's program. CONDITIONS: none.
-/
import Derived.Test.YtgamocljdbffpaaDoorFrame
namespace Go.Proofs.YtgamocljdbffpaaDoor
open Go.RowKit
open Go.ChangeShapes Go.WideShapes Go.ChangeAt

/-- an error value: nil, or an Errno -/
def errV (n : Int) : Value := if n = 0 then .nilIface else .iface 86 (.int .i64 n)
theorem errV_zero : errV 0 = .nilIface := rfl
theorem errV_ne {n : Int} (h : n ≠ 0) : errV n = .iface 86 (.int .i64 n) := if_neg h

structure E where
  key : Int
  ver : Int
  asof : Int
  gone : Bool
  text : ByteArray
def E.cells (e : E) : List Value := [.int .i64 e.key, .int .i64 e.ver, .int .i64 e.asof, .bool e.gone, .string e.text]

def keyB (k : Int) : Bool := decide (0 ≤ k) && decide (k < 8)
def seqB (n : Int) : Bool := decide (0 ≤ n) && decide (n ≤ 1000)
theorem keyB_true {k : Int} : keyB k = true ↔ 0 ≤ k ∧ k < 8 := by simp [keyB]
theorem keyB_false {k : Int} : keyB k = false ↔ k < 0 ∨ 8 ≤ k := by
  rw [← Bool.not_eq_true, keyB_true]; omega
theorem seqB_true {k : Int} : seqB k = true ↔ 0 ≤ k ∧ k ≤ 1000 := by simp [seqB]
theorem seqB_false {k : Int} : seqB k = false ↔ k < 0 ∨ 1000 < k := by
  rw [← Bool.not_eq_true, seqB_true]; omega

theorem key_any (k : Int) (w : World) : Calls Tryd.prog 59 #[.int .i64 k] w fun e w' => e = .returned (.bool (keyB k)) ∧ w = w' := by
  rcases hk : keyB k with _ | _
  · rw [keyB_false] at hk
    by_cases h0 : 0 ≤ k
    · have h8 : ¬ k < 8 := by omega
      clear hk
      go_enter Tryd.func59, Tryd.ntmps59
      go_wp2
      go_ret
      exact ⟨rfl, rfl⟩
    · clear hk
      go_enter Tryd.func59, Tryd.ntmps59
      go_wp2
      go_ret
      exact ⟨rfl, rfl⟩
  · rw [keyB_true] at hk
    obtain ⟨h0, h8⟩ := hk
    go_enter Tryd.func59, Tryd.ntmps59
    go_wp2
    go_ret
    exact ⟨rfl, rfl⟩

theorem seq_any (k : Int) (w : World) : Calls Tryd.prog 60 #[.int .i64 k] w fun e w' => e = .returned (.bool (seqB k)) ∧ w = w' := by
  rcases hk : seqB k with _ | _
  · rw [seqB_false] at hk
    by_cases h0 : 0 ≤ k
    · have h8 : ¬ k ≤ 1000 := by omega
      clear hk
      go_enter Tryd.func60, Tryd.ntmps60
      go_wp2
      go_ret
      exact ⟨rfl, rfl⟩
    · clear hk
      go_enter Tryd.func60, Tryd.ntmps60
      go_wp2
      go_ret
      exact ⟨rfl, rfl⟩
  · rw [seqB_true] at hk
    obtain ⟨h0, h8⟩ := hk
    go_enter Tryd.func60, Tryd.ntmps60
    go_wp2
    go_ret
    exact ⟨rfl, rfl⟩
end Go.Proofs.YtgamocljdbffpaaDoor
