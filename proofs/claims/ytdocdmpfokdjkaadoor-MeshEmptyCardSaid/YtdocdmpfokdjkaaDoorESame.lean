/-
  CONTRACTS of slices.Equal at api.Entry and of meresame.Cache. CONDITIONS: none.
-/
import Derived.Test.YtdocdmpfokdjkaaDoorEKit
import Derived.Laws.StructEq
import Derived.Deep.QuietTactic
import Derived.BigQuiet
namespace Go.Proofs.YtdocdmpfokdjkaaDoor
open Go.RowKit
open Go.ChangeShapes Go.WideShapes Go.ChangeAt

def eqbE (y x : E) : Bool := decide (y.key = x.key ∧ y.ver = x.ver ∧ y.asof = x.asof ∧ y.gone = x.gone ∧ y.text.toList = x.text.toList)
theorem eqbE_refl (x : E) : eqbE x x = true := by simp [eqbE]
set_option maxHeartbeats 2000000 in
theorem eqRunE (y0 : Int) (y1 : Int) (y2 : Int) (y3 : Bool) (y4 : ByteArray) (x0 : Int) (x1 : Int) (x2 : Int) (x3 : Bool) (x4 : ByteArray) (w : World) : (Op.equalIn 10000 47 (.agg #[.int .i64 y0, .int .i64 y1, .int .i64 y2, .bool y3, .string y4]) (.agg #[.int .i64 x0, .int .i64 x1, .int .i64 x2, .bool x3, .string x4])).run Tryd.prog w = .ok (eqbE ⟨y0, y1, y2, y3, y4⟩ ⟨x0, x1, x2, x3, x4⟩) w := by
  have hS : Tryd.prog.underlying 47 = some (.struct (Tryd.prog.fieldsOf 47)) := by kernel_rfl
  have hp : Tryd.prog.stoodInHeld 47 = false := by kernel_rfl
  rw [show (10000 : Nat) = 9999 + 1 from rfl, run_equalIn_agg w 9999 47 _ _ hS hp]
  simp only [Program.fieldsOf, Tryd.underlying47]
  go_simp
  unfold eqbE
  simp only []
  repeat' split
  all_goals simp_all
def eqsE (l m : List E) : Bool := decide (l.length = m.length) && (List.range l.length).all fun i => eqbE (l.getD i E.zero) (m.getD i E.zero)
theorem eqsE_len {l m : List E} (h : l.length ≠ m.length) : eqsE l m = false := by simp [eqsE, h]
theorem eqsE_at {l m : List E} {i : Nat} (hi : i < l.length) (h : eqbE (l.getD i E.zero) (m.getD i E.zero) = false) : eqsE l m = false := by
  rw [← Bool.not_eq_true]
  intro ha
  unfold eqsE at ha
  rw [Bool.and_eq_true, List.all_eq_true] at ha
  have := ha.2 i (List.mem_range.2 hi)
  simp only [h] at this
  cases this
theorem eqsE_all {l m : List E} (hl : l.length = m.length) (h : ∀ i, i < l.length → eqbE (l.getD i E.zero) (m.getD i E.zero) = true) : eqsE l m = true := by
  unfold eqsE
  rw [Bool.and_eq_true, List.all_eq_true]
  exact ⟨by simp [hl], fun i hi => h i (List.mem_range.1 hi)⟩
theorem eqsE_refl (l : List E) : eqsE l l = true := eqsE_all rfl (fun _ _ => eqbE_refl _)
set_option maxHeartbeats 2000000 in
theorem ecache_any (s r : SlV E) (w : World) (hs : EsAt w s) (hr : EsAt w r) :
    Calls Tryd.prog 45 #[.slice s.A s.xs.length s.c, .slice r.A r.xs.length r.c] w fun e w' => e = .returned (.bool (eqsE s.xs r.xs)) ∧ Below w.heap.size w w' := by
  obtain ⟨A, c, xs⟩ := s
  obtain ⟨A', c', xs'⟩ := r
  have hlen := hs.len
  have hlen' := hr.len
  unfold maxLen at hlen hlen'
  simp only at hlen hlen' ⊢
  by_cases hl : xs.length = xs'.length
  · have hll : xs'.length ≤ xs.length ∧ xs.length ≤ xs'.length := ⟨by omega, by omega⟩
    obtain ⟨hl1, hl2⟩ := hll
    have hle : ((xs.length : Int) == (xs'.length : Int)) = true := by rw [hl]; simp
    have hle2 : ((xs.length : Int) != (xs'.length : Int)) = false := by rw [hl]; simp
    have Hl := hid hl
    generalize hR : eqsE xs xs' = R
    have HR := hid hR
    clear hl hR
    go_enter Tryd.func45, Tryd.ntmps45
    go_wp2_with fail
    go_loopw [5] (fun i wr => ∃ k : Nat, k ≤ xs.length ∧ i = .int .i64 k ∧ (∀ j, j < k → eqbE (xs.getD j E.zero) (xs'.getD j E.zero) = true) ∧ Below w.heap.size w wr) (fun i _ => xs.length - (intOf i).toNat)
    case atStart => exact ⟨0, Nat.zero_le _, rfl, fun j hj => by omega, Below.refl _ _⟩
    case round =>
      obtain ⟨k, hk, rfl, hall, hbr⟩ := hrel
      have Hall := hid hall
      clear hall
      by_cases hlt : k < xs.length
      · obtain ⟨g, off, hA, hgl, hc⟩ := hs.row (by simp only; omega)
        obtain ⟨g', off', hA', hgl', hc'⟩ := hr.row (by simp only; omega)
        simp only at hA hA' hc hc'
        subst hA hA'
        obtain ⟨k0, k1, k2, k3, k4⟩ := (hc k hlt).stays hbr hgl
        obtain ⟨j0, j1, j2, j3, j4⟩ := (hc' k (by omega)).stays hbr hgl'
        have hk0 : (0 : Int) ≤ (k : Int) := by omega
        have hk1 : (k : Int) < (xs.length : Int) := by omega
        have hk2 : (k : Int) < (xs'.length : Int) := by omega
        generalize hy : xs.getD k E.zero = y at *
        generalize hz : xs'.getD k E.zero = z at *
        have Hy := hid hy
        have Hz := hid hz
        obtain ⟨y0, y1, y2, y3, y4⟩ := y
        obtain ⟨z0, z1, z2, z3, z4⟩ := z
        simp only at k0 k1 k2 k3 k4 j0 j1 j2 j3 j4
        clear hc hc' hy hz
        have heq := fun W => eqRunE y0 y1 y2 y3 y4 z0 z1 z2 z3 z4 W
        have Hbr := hid hbr
        rcases hq : eqbE ⟨y0, y1, y2, y3, y4⟩ ⟨z0, z1, z2, z3, z4⟩ with _ | _
        · have hRf : R = false := by rw [← HR.out]; exact eqsE_at hlt (by rw [Hy.out, Hz.out]; exact hq)
          have HRf := hid hRf
          clear hRf
          rw [hq] at heq
          clear hq
          go_wp2_with fail
          go_quiet (fail)
          go_wp2_with fail
          go_ret
          exact ⟨by rw [HRf.out]; rfl, Below.manyDrew Hbr.out _⟩
        · rw [hq] at heq
          have Hq := hid hq
          clear hq
          go_wp2_with fail
          go_quiet (fail)
          go_wp2_with fail
          go_roundw
          case rel =>
            refine ⟨k + 1, by omega, by go_num, fun j hj => ?_, Below.manyDrew Hbr.out _⟩
            by_cases hjk : j < k
            · exact Hall.out j hjk
            · obtain rfl : j = k := by omega
              rw [Hy.out, Hz.out]; exact Hq.out
          case measure => simp [intOf]; omega
      · obtain rfl : k = xs.length := by omega
        have hRt : R = true := by rw [← HR.out]; exact eqsE_all Hl.out Hall.out
        have HRt := hid hRt
        clear hRt
        go_wp2_with fail
        go_ret
        exact ⟨by rw [HRt.out]; rfl, hbr⟩
  · rw [eqsE_len hl]
    have hle : ((xs.length : Int) == (xs'.length : Int)) = false := by rw [beq_eq_false_iff_ne]; omega
    have hle2 : ((xs.length : Int) != (xs'.length : Int)) = true := by rw [bne_iff_ne]; omega
    clear hl
    go_enter Tryd.func45, Tryd.ntmps45
    go_wp2_with fail
    go_ret
    exact ⟨rfl, Below.refl _ _⟩
end Go.Proofs.YtdocdmpfokdjkaaDoor
