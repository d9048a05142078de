/-
  PROVED HERE: merelaw4.ProbeNext returns true for every two numbers: the next one first. CONDITIONS: errors.errorType as the program's text lays it (tied by the card).
-/
import Derived.Test.YtkokohlkjlgdkaaDoorProbeLaw
import Derived.Test.YtkokohlkjlgdkaaDoorDoor
namespace Go.Proofs.YtkokohlkjlgdkaaDoor
open Go.RowKit
open Go.ChangeShapes Go.WideShapes Go.ChangeAt

set_option maxHeartbeats 4000000 in
set_option maxRecDepth 100000 in
theorem probeNext_any (me n : Int) (w : World) (hgl : Gl w) :
    Calls Tryd.prog 3 #[.int .i64 me, .int .i64 n] w fun e w' => e = .returned (.bool true) ∧ Below w.heap.size w w' := by
  rcases hp : pchk me n with _ | _
  · have T0 : Hid (targetR me n 0 = (0, 1)) := hid (by simp [targetR, hp])
    rcases pchk_false.1 hp with h | h | h | h
    all_goals
      clear hp
      go_enter Tryd.func3, Tryd.ntmps3
      go_wp2_with fail
      refine (target_any me n 0 _).mono ?_
      rw [T0.out]
      rintro e w1 ⟨rfl, rfl⟩
      rw [show errV 1 = .iface 88 (.int .i64 1) from rfl]
      go_wp2_with fail
      all_goals
        go_ret
        exact ⟨ret_b (by first | rfl | (simp; omega)), Below.refl _ _⟩
  · obtain ⟨h1, h2, h3, h4⟩ := pchk_true.1 hp
    have e0 : atI me n 0 = (me + 1) % n := by unfold atI; rw [Int.zero_emod, Int.add_zero]
    have e1 : atI me n (n - 1) = (me + 1) % n := by unfold atI; rw [Int.emod_self, Int.add_zero]
    have hw := atI_when (t := 0) h1 h2 h3 h4
    have hne := atI_ne (t := 0) h1 h2 h3 h4
    have hin := atI_in (me := me) (t := 0) h1 h2
    rw [e0] at hw hne hin
    have T0 : Hid (targetR me n 0 = ((me + 1) % n, 0)) := hid (by simp [targetR, hp, e0, show turnB 0 = true by decide])
    have T1 : Hid (targetR me n (n - 1) = ((me + 1) % n, 0)) := hid (by
      have : turnB (n - 1) = true := turnB_true.2 (by omega)
      simp [targetR, hp, e1, this])
    have W0 : Hid (whenR me n ((me + 1) % n) = (0, 0)) := hid (by
      rw [whenR, if_pos hp, if_pos hin, if_neg hne, hw, Int.zero_emod])
    have W1 : Hid (whenR me n me = (0, 5)) := hid (by
      rw [whenR, if_pos hp, if_pos ⟨h3, h4⟩, if_pos rfl])
    have hn1 : ¬ n = 0 := by omega
    clear e0 e1 hw hne hin hp
    go_enter Tryd.func3, Tryd.ntmps3
    go_wp2_with fail
    refine (target_any me n 0 _).mono ?_
    rw [T0.out, show errV 0 = .nilIface from rfl]
    rintro e w1 ⟨rfl, rfl⟩
    go_wp2_with fail
    refine (target_any me n (n - 1) _).mono ?_
    rw [T1.out, show errV 0 = .nilIface from rfl]
    rintro e w1 ⟨rfl, rfl⟩
    go_wp2_with fail
    refine (when_any me n _ _).mono ?_
    rw [W0.out, show errV 0 = .nilIface from rfl]
    rintro e w1 ⟨rfl, rfl⟩
    go_wp2_with fail
    refine (when_any me n _ _).mono ?_
    rw [W1.out]
    rintro e w1 ⟨rfl, rfl⟩
    go_wp2_with fail
    refine (error_any 5 5 _ hgl).mono ?_; rintro e w1 ⟨rfl, hb1⟩; obtain ⟨hc1, hf1⟩ := bcell hb1; have hz1 := hb1.size; (try simp only [World.size_alloc] at hz1); (try simp only [World.size_setCell] at hz1)
    go_wp2_with fail
    go_ret
    exact ⟨rfl, by (repeat (first | with_reducible exact Below.refl _ _ | with_reducible assumption | (with_reducible refine Below.drew ?_) | (with_reducible refine Below.manyDrew ?_ _) | ((with_reducible refine Below.alloc ?_ ?_ _); rotate_left; (focus (first | omega | (dsimp only; omega) | (simp; done) | (simp; omega)))) | ((with_reducible refine Below.setCell ?_ ?_ _); rotate_left; (focus (first | omega | (dsimp only; omega) | (simp; done) | (simp; omega)))) | ((with_reducible refine Below.step ?_ (by assumption) ?_); rotate_left; (focus (first | omega | (dsimp only; omega) | (simp; done) | (simp; omega))))))⟩

set_option maxRecDepth 100000 in
theorem probeNext_walk : LawWalk Tryd.prog 3 Tryd.f3 Gl := by
  intro W base args H enc ds p hval hA hgl
  rw [Tryd.params3] at hA hval
  obtain ⟨v0, v1, d0, d1, p0, p1, rfl, rfl, rfl, h0, h1⟩ := trodAll_two hA
  obtain ⟨n0, rfl, _⟩ := arg_int Tryd.underlying3 (hval 0 3 v0 rfl rfl) h0
  obtain ⟨n1, rfl, _⟩ := arg_int Tryd.underlying3 (hval 1 3 v1 rfl rfl) h1
  exact probeNext_any n0 n1 W hgl

set_option maxRecDepth 100000 in
theorem probeNext_lifted (os : Os) (started : os.Started) (H : Type) (enc : TypeId × Value → H) :
    ReturnsInHanded {} Tryd.checked os 3 .any (fun w args => (Rows.probeNextSpec.pre enc Tryd.checked.prog Tryd.f3 [] false w args ∧ laidMetH Tryd.prog theLaid w) ∧ sizedMet enc Tryd.checked.prog Tryd.f3 (OpenSpec.ofChange Rows.probeNextSpec) false w args) (Rows.probeNextSpec.post enc Tryd.checked.prog Tryd.f3 false true false false) :=
  laid_lifted (C := Tryd.checked) theLaid (fun _ h => handle_of_laid h) [] Tryd.own started (by kernel_rfl) Tryd.func3 Tryd.laidOut (by kernel_rfl) rfl Tryd.underlying4 rfl (fun ds h => by match ds, h with | [_, _], _ => rfl)
    (ChangeSpec.witness_at (enc := enc) (C := Tryd.checked) (os := os) (X := fun w _ => laidMetH Tryd.prog theLaid w) false (laidWorld os) #[.int .i64 0, .int .i64 0] 8 rfl (by kernel_rfl) (by kernel_rfl) (by kernel_rfl) (by kernel_rfl) (by kernel_rfl) (laidWorld_met os _)) probeNext_walk

theorem probeNext_row : Rows.ProbeNextSaid :=
  OpenClaim.holds_of_wide 3 Tryd.f3 rfl rfl rfl rfl rfl rfl rfl ⟨rfl, rfl, rfl, rfl, rfl⟩ rfl rfl rfl rfl rfl (by kernel_rfl) Tryd.func3 (by kernel_rfl)
    (of_decide_eq_true (by kernel_rfl)) (by unfold Func.isWrapper; rw [if_neg (of_decide_eq_false (by kernel_rfl))]; exact ⟨rfl, rfl⟩)
    (fun os started H enc _ => probeNext_lifted os started H enc)

theorem probeNext_holds : Rows.ProbeNextCardSaid :=
  Claim7.holds_tied_plain_at .later [] [.handle] true _ true
    probeNext_row (fun _ h => by cases h) (by kernel_rfl) (fun _ h => by cases h) probeNext_row_tie rfl ⟨rfl, rfl⟩ (by kernel_rfl) rfl
    (fun f fn hf hfn => by
      obtain rfl : f = 3 := Option.some.inj ((show Tryd.prog.funcNamed "beaconmere/merelaw4.ProbeNext" = some 3 by kernel_rfl).symm.trans hf) |>.symm
      obtain rfl : fn = Tryd.f3 := (Option.some.inj (Tryd.func3.symm.trans hfn)).symm
      refine ⟨by kernel_rfl, fun j t ht => ?_⟩
      have hall : Tryd.f3.params.toList.all (fun t => !Tryd.prog.wantsStandIn t) = true := by kernel_rfl
      have hm : t ∈ Tryd.f3.params.toList := by
        obtain ⟨hj, hje⟩ := Array.getElem?_eq_some_iff.1 ht
        rw [← hje]
        exact Array.mem_toList_iff.2 (Array.getElem_mem hj)
      have := List.all_eq_true.1 hall t hm
      exact (show Tryd.prog.wantsStandIn t = false by simpa using this))
    (by kernel_rfl)

end Go.Proofs.YtkokohlkjlgdkaaDoor
