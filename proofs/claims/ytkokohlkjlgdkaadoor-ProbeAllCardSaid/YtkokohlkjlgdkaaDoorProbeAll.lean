/-
  PROVED HERE: merelaw2.ProbeAll returns true for every three numbers: each once in each round. CONDITIONS: errors.errorType as the program's text lays it (tied by the card).
-/
import Derived.Test.YtkokohlkjlgdkaaDoorProbeAll0
import Derived.Test.YtkokohlkjlgdkaaDoorProbeRow
import Derived.Test.YtkokohlkjlgdkaaDoorIn
import Derived.Test.YtkokohlkjlgdkaaDoorDoor
import Derived.BigQuiet
import Derived.Deep.QuietTactic
namespace Go.Proofs.YtkokohlkjlgdkaaDoor
open Go.RowKit
open Go.ChangeShapes Go.WideShapes Go.ChangeAt

set_option maxHeartbeats 4000000 in
set_option maxRecDepth 100000 in
theorem probeAll_any (me n t : Int) (w : World) (hgl : Gl w) :
    Calls Tryd.prog 5 #[.int .i64 me, .int .i64 n, .int .i64 t] w fun e w' => e = .returned (.bool true) ∧ Below w.heap.size w w' := by
  have T0 : Hid (targetR 2 4 1 = (0, 0)) := hid (by decide)
  by_cases hn : 2 ≤ n ∧ n ≤ 6
  · obtain ⟨h1, h2⟩ := hn
    rcases hok : rowOk me n t (n - 1) with _ | _
    · have R0 : Hid (rowR me n t (n - 1) = ([], 1)) := hid (by simp [rowR, hok])
      clear hok
      go_enter Tryd.func5, Tryd.ntmps5
      go_wp2_with fail
      refine (target_any 2 4 1 _).mono ?_
      rw [T0.out, show errV 0 = .nilIface from rfl]
      rintro e w1 ⟨rfl, rfl⟩
      go_wp2_with fail
      refine (row_any me n t (n - 1) _).mono ?_
      rw [R0.out, show errV 1 = .iface 88 (.int .i64 1) from rfl]
      rintro e w1 ⟨r, rfl, hr, hrA, _, hb1⟩
      have Hr := hid hr
      clear hr
      go_wp2_with fail
      go_ret
      exact ⟨rfl, hb1⟩
    · exact probeAll_ok me n t w hgl h1 h2 hok
  · have T1 : Hid (targetR 0 1 0 = (0, 1)) := hid (by decide)
    have hn' : n < 2 ∨ 2 ≤ n ∧ 6 < n := by omega
    rcases hn' with hn' | ⟨hn', hn''⟩
    all_goals
      clear hn
      go_enter Tryd.func5, Tryd.ntmps5
      go_wp2_with fail
      refine (target_any 2 4 1 _).mono ?_
      rw [T0.out, show errV 0 = .nilIface from rfl]
      rintro e w1 ⟨rfl, rfl⟩
      go_wp2_with fail
      refine (target_any 0 1 0 _).mono ?_
      rw [T1.out]
      rintro e w1 ⟨rfl, rfl⟩
      go_wp2_with fail
      refine (error_any 1 1 _ hgl).mono ?_; rintro e w1 ⟨rfl, hb1⟩; obtain ⟨hc1, hf1⟩ := bcell hb1; have hz1 := hb1.size; (try simp only [World.size_alloc] at hz1); (try simp only [World.size_setCell] at hz1)
      go_wp2_with fail
      go_ret
      exact ⟨rfl, by (repeat (first | with_reducible exact Below.refl _ _ | with_reducible assumption | (with_reducible refine Below.drew ?_) | (with_reducible refine Below.manyDrew ?_ _) | ((with_reducible refine Below.alloc ?_ ?_ _); rotate_left; (focus (first | omega | (dsimp only; omega) | (simp; done) | (simp; omega)))) | ((with_reducible refine Below.setCell ?_ ?_ _); rotate_left; (focus (first | omega | (dsimp only; omega) | (simp; done) | (simp; omega)))) | ((with_reducible refine Below.step ?_ (by assumption) ?_); rotate_left; (focus (first | omega | (dsimp only; omega) | (simp; done) | (simp; omega))))))⟩

set_option maxRecDepth 100000 in
theorem probeAll_walk : LawWalk Tryd.prog 5 Tryd.f5 Gl := by
  intro W base args H enc ds p hval hA hgl
  rw [Tryd.params5] at hA hval
  obtain ⟨v0, v1, v2, d0, d1, d2, p0, p1, p2, rfl, rfl, rfl, h0, h1, h2⟩ := trodAll_three hA
  obtain ⟨n0, rfl, _⟩ := arg_int Tryd.underlying3 (hval 0 3 v0 rfl rfl) h0
  obtain ⟨n1, rfl, _⟩ := arg_int Tryd.underlying3 (hval 1 3 v1 rfl rfl) h1
  obtain ⟨n2, rfl, _⟩ := arg_int Tryd.underlying3 (hval 2 3 v2 rfl rfl) h2
  exact probeAll_any n0 n1 n2 W hgl

set_option maxRecDepth 100000 in
theorem probeAll_lifted (os : Os) (started : os.Started) (H : Type) (enc : TypeId × Value → H) :
    ReturnsInHanded {} Tryd.checked os 5 .any (fun w args => (Rows.probeAllSpec.pre enc Tryd.checked.prog Tryd.f5 [] false w args ∧ laidMetH Tryd.prog theLaid w) ∧ sizedMet enc Tryd.checked.prog Tryd.f5 (OpenSpec.ofChange Rows.probeAllSpec) false w args) (Rows.probeAllSpec.post enc Tryd.checked.prog Tryd.f5 false true false false) :=
  laid_lifted (C := Tryd.checked) theLaid (fun _ h => handle_of_laid h) [] Tryd.own started (by kernel_rfl) Tryd.func5 Tryd.laidOut (by kernel_rfl) rfl Tryd.underlying4 rfl (fun ds h => by match ds, h with | [_, _, _], _ => rfl)
    (ChangeSpec.witness_at (enc := enc) (C := Tryd.checked) (os := os) (X := fun w _ => laidMetH Tryd.prog theLaid w) false (laidWorld os) #[.int .i64 0, .int .i64 0, .int .i64 0] 8 rfl (by kernel_rfl) (by kernel_rfl) (by kernel_rfl) (by kernel_rfl) (by kernel_rfl) (laidWorld_met os _)) probeAll_walk

theorem probeAll_row : Rows.ProbeAllSaid :=
  OpenClaim.holds_of_wide 5 Tryd.f5 rfl rfl rfl rfl rfl rfl rfl ⟨rfl, rfl, rfl, rfl, rfl⟩ rfl rfl rfl rfl rfl (by kernel_rfl) Tryd.func5 (by kernel_rfl)
    (of_decide_eq_true (by kernel_rfl)) (by unfold Func.isWrapper; rw [if_neg (of_decide_eq_false (by kernel_rfl))]; exact ⟨rfl, rfl⟩)
    (fun os started H enc _ => probeAll_lifted os started H enc)

theorem probeAll_holds : Rows.ProbeAllCardSaid :=
  Claim7.holds_tied_plain_at .later [] [.handle] true _ true
    probeAll_row (fun _ h => by cases h) (by kernel_rfl) (fun _ h => by cases h) probeAll_row_tie rfl ⟨rfl, rfl⟩ (by kernel_rfl) rfl
    (fun f fn hf hfn => by
      obtain rfl : f = 5 := Option.some.inj ((show Tryd.prog.funcNamed "beaconmere/merelaw2.ProbeAll" = some 5 by kernel_rfl).symm.trans hf) |>.symm
      obtain rfl : fn = Tryd.f5 := (Option.some.inj (Tryd.func5.symm.trans hfn)).symm
      refine ⟨by kernel_rfl, fun j t ht => ?_⟩
      have hall : Tryd.f5.params.toList.all (fun t => !Tryd.prog.wantsStandIn t) = true := by kernel_rfl
      have hm : t ∈ Tryd.f5.params.toList := by
        obtain ⟨hj, hje⟩ := Array.getElem?_eq_some_iff.1 ht
        rw [← hje]
        exact Array.mem_toList_iff.2 (Array.getElem_mem hj)
      have := List.all_eq_true.1 hall t hm
      exact (show Tryd.prog.wantsStandIn t = false by simpa using this))
    (by kernel_rfl)

end Go.Proofs.YtkokohlkjlgdkaaDoor
