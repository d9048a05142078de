/-
  CONTRACTS: slices.SortStableFunc, Index and Contains at rumors. CONDITIONS: none.
-/
import Derived.Test.YtgamocljdbffpaaRumA
import Derived.Test.YtgamocljdbffpaaSortL
import Derived.Shelf.SlSortCmp.NoneTotal
namespace Go.Proofs.Ytgamocljdbffpaa
open Go.RowKit
open Go.ChangeShapes Go.WideShapes Go.ChangeAt
open Go.Sort (grow insertionSort alloc_eq_grow grow_grow)

set_option maxHeartbeats 1000000 in
theorem ucmp (x0 x1 x2 x3 y0 y1 y2 y3 : Int) (W : World) : Calls Try.prog 17 #[.agg #[.int .i64 x0, .int .i64 x1, .int .i64 x2, .int .i64 x3], .agg #[.int .i64 y0, .int .i64 y1, .int .i64 y2, .int .i64 y3]] W
    fun e w' => e = .returned (.int .i64 (cmpI x3 y3)) ∧ ∃ q os', w' = grow (W.drewN q) os' := by
  have hcon := fun W' => compare_any x3 y3 W'
  generalize cmpI x3 y3 = r at hcon ⊢
  go_enter Try.func17, Try.ntmps17
  go_wp2_with (go_at_call 18; refine (hcon _).mono ?_; rintro e w' ⟨rfl, rfl⟩)
  go_ret
  exact ⟨rfl, 0, _, by rw [alloc_eq_grow, alloc_eq_grow, grow_grow]; rfl⟩
def ucf (x y : U) : Int := cmpI x.told y.told
theorem ucf_lt : ltOf ucf = ltU := by
  funext x y
  unfold ltOf ucf cmpI ltU
  rw [Bool.eq_iff_iff]
  simp only [decide_eq_true_eq]
  split
  · omega
  · split <;> omega
theorem swo_ltU : Go.Sort.SWO ltU where
  irrefl x := by simp [ltU]
  trans x y z h1 h2 := by simp only [ltU, decide_eq_true_eq] at *; omega
  ntrans x y z h1 h2 := by simp only [ltU, decide_eq_false_iff_not] at *; omega
theorem ucmpLays (blk off size : Nat) (w : World) : CmpLays Try.prog 17 #[] U.cells 4 ucf blk off size w :=
  fun _ _ _ _ x y => ucmp x.node x.life x.state x.told y.node y.life y.state y.told _
theorem uins_sort (base g off cap : Nat) (l : List U) (w : World) (hl : 0 < l.length) (hO : Ow U.cells 4 base 39 w (.slice (some ⟨g, off, none⟩) l.length cap) l) (hn : l.length ≤ 1000) :
    Calls Try.prog 29 #[.slice (some ⟨g, off, none⟩) l.length cap, .int .i64 0, .int .i64 l.length, .func (.func 17) #[] #[]] w
      fun e w' => e = .returned (.tuple #[]) ∧ Ow U.cells 4 base 39 w' (.slice (some ⟨g, off, none⟩) l.length cap) (ordU l) ∧ Fr (fun k => k = g) w w' := by
  have eg : ∀ args w, (callFunc 17 args).run Try.prog w = .ok (.enter 17 args) w := enters_of Try.func17 (by kernel_rfl) rfl
  obtain ⟨hH, hb⟩ := hO.holdsK U.cells_length (by decide) hl
  have hcon := AnyQ.insertionSortCmpFunc Try.sortU 4 Try.isAgg39 Try.sizeOf39 U.cells (fun _ => rfl) (fun x => x.one) ucf 17 #[] g off cap 0 l.length l.toArray w eg (ucmpLays g off _ w) hH hb (Nat.zero_le _) (by simp) (by simp; omega)
  rw [show l.toArray.size = l.length by simp] at hcon
  refine hcon.mono ?_
  rintro e w' ⟨rfl, n, os, rfl⟩
  refine ⟨rfl, ?_, fr_sortWorldK _ _ _⟩
  rw [ucf_lt]
  exact hO.sorted U.cells_length (by decide) hl n _ os (by
    have := (Go.Sort.insertionSort_holds (lt := ltU) swo_ltU l.toArray 0 l.length (Nat.zero_le _) (by simp)).1.1
    rw [this]; simp)
/-- what a sort leaves: the same slice, in order -/
def USorted (base : Nat) (v : Value) (l : List U) (w : World) (e : Ending) (w' : World) : Prop :=
  e = .returned (.tuple #[]) ∧ Ow U.cells 4 base 39 w' v (ordU l) ∧ Fr (fun k => some k = foot v) w w'
theorem ordU_nil : ordU [] = [] := by
  unfold ordU insertionSort Go.Sort.insOuter
  rfl
set_option maxHeartbeats 1000000 in
theorem ustable_any (base : Nat) (v : Value) (l : List U) (w : World) (hO : Ow U.cells 4 base 39 w v l) (hn : l.length ≤ 6) :
    Calls Try.prog 16 #[v, .func (.func 17) #[] #[]] w (USorted base v l w) := by
  have hst : Calls Try.prog 25 #[v, .int .i64 l.length, .func (.func 17) #[] #[]] w (USorted base v l w) := by
    by_cases h0 : 0 < l.length
    · obtain ⟨g, off, cap, rfl, h1, h2, hb, hlt, hfo, _⟩ := hO.get h0
      have hI := hid (uins_sort base g off cap l w h0 hO (by omega))
      have Hfo := hid hfo
      clear hO hfo
      obtain ⟨L, hL⟩ : ∃ L, L = ordU l := ⟨_, rfl⟩
      rw [← hL] at hI
      have HL := hid hL
      clear hL
      go_enter Try.func25, Try.ntmps25
      go_wp2
      refine wp_loop_rounds 1 ?_
      rw [rounds_succ]
      go_wp2_with fail
      refine hI.out.mono ?_
      rintro e w1 ⟨rfl, hO1, hF1⟩
      have HO1 := hid hO1
      have HF1 := hid hF1
      clear hO1 hF1
      go_wp2
      refine wp_loop_rounds 1 ?_
      rw [rounds_succ]
      go_wp2
      go_end0
      exact ⟨rfl, by rw [← HL.out]; exact HO1.out, HF1.out.mono (fun i _ h => by rw [h, Hfo.out])⟩
    · obtain rfl : l = [] := List.eq_nil_of_length_eq_zero (by omega)
      have HO := hid hO
      obtain ⟨A, cap, rfl, h1, h2, _⟩ := hO
      have HN := hid (fun W => AnyF.insertionSortCmpFunc_none Try.sortU A cap (.func (.func 17) #[] #[]) W)
      clear h0
      go_enter Try.func25, Try.ntmps25
      go_wp2
      refine wp_loop_rounds 1 ?_
      rw [rounds_succ]
      go_wp2_with fail
      refine (HN.out w).mono ?_
      rintro e w1 ⟨rfl, rfl⟩
      go_wp2
      refine wp_loop_rounds 1 ?_
      rw [rounds_succ]
      go_wp2
      go_end0
      exact ⟨rfl, by rw [ordU_nil]; exact HO.out, Fr.refl _ _⟩
  have Hst := hid hst
  obtain ⟨A, cap, rfl, h1, h2, _⟩ := hO
  clear hst
  go_enter Try.func16, Try.ntmps16
  go_wp2_with fail
  refine Hst.out.mono ?_
  rintro e w1 ⟨rfl, hO1, hF1⟩
  have HO1 := hid hO1
  have HF1 := hid hF1
  clear hO1 hF1
  go_wp2_with fail
  go_end0
  exact ⟨rfl, HO1.out, HF1.out⟩
end Go.Proofs.Ytgamocljdbffpaa
