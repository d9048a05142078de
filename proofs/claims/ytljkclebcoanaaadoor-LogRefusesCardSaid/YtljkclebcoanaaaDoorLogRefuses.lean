/-
  PROVED HERE: merelaw4.LogRefuses returns true: what is refused leaves no byte. CONDITIONS: the library's variables as the program's text lays them (tied by the card).
-/
import Derived.Test.YtljkclebcoanaaaDoorLogX
import Derived.Test.YtljkclebcoanaaaDoorStopLaw
namespace Go.Proofs.YtljkclebcoanaaaDoor
open Go.RowKit
open Go.ChangeShapes Go.WideShapes Go.ChangeAt

theorem del_new (key : Int) : ∃ e, e ≠ 0 ∧ LG.new.del key = ((0, e), LG.new) := by
  cases hk : keyB key with
  | false =>
    refine ⟨1, by decide, ?_⟩
    unfold LG.del LG.deed
    have : rdel LG.new.D key = ((0, 1), []) := by unfold rdel; rw [hk]; rfl
    rw [this]
    rfl
  | true =>
    refine ⟨5, by decide, ?_⟩
    unfold LG.del LG.deed
    have : rdel LG.new.D key = ((0, 5), []) := by
      unfold rdel
      rw [if_pos hk, if_pos (show (refC LG.new.D key).gone = true from rfl)]
      rfl
    rw [this]
    rfl
theorem put_new (key : Int) (t : ByteArray) : (∃ e, e ≠ 0 ∧ LG.new.put key t = ((0, e), LG.new) ∧ (key < 0 ∨ (¬ key < 0 ∧ 7 < key) ∨ (¬ key < 0 ∧ ¬ 7 < key ∧ (12 : Int) < (t.size : Int)))) ∨
    ∃ G, LG.new.put key t = ((1, 0), G) ∧ G.stopped = false ∧ 2 ≤ G.bs.length := by
  cases hk : keyB key with
  | false =>
    refine .inl ⟨1, by decide, ?_, ?_⟩
    · unfold LG.put LG.deed
      rw [rput_range hk]
      rfl
    · have := keyB_false.1 hk
      omega
  | true =>
    have hk' := keyB_true.1 hk
    by_cases ht : (12 : Int) < (t.size : Int)
    · refine .inl ⟨4, by decide, ?_, by omega⟩
      unfold LG.put LG.deed
      have : rput LG.new.D key t = ((0, 4), []) := by
        unfold rput
        rw [if_pos hk, if_pos ht]
        rfl
      rw [this]
      rfl
    · refine .inr ⟨{ LG.new.step with D := [⟨key, 0, 0, false, t⟩], bs := recL key.toNat false t }, ?_, rfl, recL_two _ _ _⟩
      unfold LG.put LG.deed
      rw [rput_short hk (by omega) (by decide)]
      rfl
theorem put_nine {G : LG} (h : G.stopped = false) (t : ByteArray) : G.put 9 t = ((0, 1), G) := by
  unfold LG.put LG.deed
  rw [h, if_neg (by decide), rput_range (by decide), if_pos (by simp)]

set_option maxHeartbeats 8000000 in
set_option maxRecDepth 100000 in
theorem logRefuses_any (key : Int) (t : ByteArray) (ht : t.size ≤ maxLen) (w : World) (hT : Tv w) :
    Calls Tryd.prog 3 #[.int .i64 key, .string t] w fun e w' => e = .returned (.bool true) ∧ Below w.heap.size w w' := by
  have HT0 := hid hT.base
  have htm := ht
  unfold maxLen at htm
  obtain ⟨e1, he1, hd⟩ := del_new key
  clear hT
  go_enter Tryd.func3, Tryd.ntmps3
  go_wp2_with fail
  refine (xnew w).mono ?_
  rintro e w1 ⟨l, rfl, hX1, hb1⟩
  have HD := hid (xdel hX1 (HT0.out.step hb1) key)
  rw [hd, errV_ne he1] at HD
  simp only at HD
  have Hb1 := hid hb1
  clear hX1 hb1 hd
  go_wp2_with fail
  refine HD.out.mono ?_
  rintro e w2 ⟨rfl, hX2, hb2⟩
  have Hb2 := hid (Hb1.out.trans hb2)
  have HB2 := hid (xbytes hX2)
  change Hid (Calls _ _ _ _ fun e w' => e = .returned (.int .i64 0) ∧ w2 = w') at HB2
  have HP2 := hid (xput hX2 (HT0.out.step Hb2.out) key t ht)
  clear hX2 hb2 HD Hb1
  go_wp2_with fail
  refine HB2.out.mono ?_
  rintro e w3 ⟨rfl, rfl⟩
  rcases put_new key t with ⟨e2, he2, hp, hc⟩ | ⟨G, hp, hst, h2⟩
  · rw [hp, errV_ne he2] at HP2
    simp only at HP2
    clear hp HB2
    go_wp2_with fail
    refine HP2.out.mono ?_
    rintro e w4 ⟨rfl, hX4, hb4⟩
    have Hb4 := hid (Hb2.out.trans hb4)
    have HB4 := hid (xbytes hX4)
    have HS4 := hid (xseq hX4)
    change Hid (Calls _ _ _ _ fun e w' => e = .returned (.int .i64 0) ∧ w4 = w') at HB4
    change Hid (Calls _ _ _ _ fun e w' => e = .returned (.int .i64 0) ∧ w4 = w') at HS4
    clear hX4 hb4 HP2
    rcases hc with h1 | ⟨h1, h2⟩ | ⟨h1, h2, h3⟩
    all_goals
      go_wp2_with fail
      refine HB4.out.mono ?_
      rintro e w5 ⟨rfl, rfl⟩
      go_wp2_with fail
      refine HS4.out.mono ?_
      rintro e w5 ⟨rfl, rfl⟩
      go_wp2_with fail
      go_ret
      exact ⟨rfl, Hb4.out⟩
  · rw [hp, errV_zero] at HP2
    simp only at HP2
    clear hp HB2
    go_wp2_with fail
    refine HP2.out.mono ?_
    rintro e w4 ⟨rfl, hX4, hb4⟩
    have Hb4 := hid (Hb2.out.trans hb4)
    have HB4 := hid (xbytes hX4)
    have HP4 := hid (xput hX4 (HT0.out.step Hb4.out) 9 ⟨#[120]⟩ (by decide))
    rw [put_nine hst] at HP4
    simp only at HP4
    have h2' : (2 : Int) ≤ (G.bs.length : Int) := by omega
    have hlb : (G.bs.length : Int) ≤ 57000 := by have := hX4.1.len; omega
    clear hX4 hb4 HP2 hst h2
    have HBx := hid (fun W (hX : LogX w.heap.size W l G) => xbytes hX)
    generalize G.bs.length = nb at *
    go_wp2_with fail
    refine HB4.out.mono ?_
    rintro e w5 ⟨rfl, rfl⟩
    go_wp2_with fail
    refine HP4.out.mono ?_
    rintro e w6 ⟨rfl, hX6, hb6⟩
    have Hb6 := hid (Hb4.out.trans hb6)
    have HX6 := hid hX6
    have HE6 := hid (error_any 1 1 w6 (HT0.out w6 Hb6.out).gl)
    clear hX6 hb6 HP4 HB4
    go_wp2_with fail
    refine HE6.out.mono ?_
    rintro e w7 ⟨rfl, hb7⟩
    have Hb7 := hid (Below.step Hb6.out hb7 Hb6.out.size)
    have HB7 := hid (HBx.out w7 (HX6.out.belowS hb7))
    clear hb7 HE6 HX6 HBx
    go_wp2_with fail
    refine HB7.out.mono ?_
    rintro e w8 ⟨rfl, rfl⟩
    go_wp2_with fail
    go_ret
    exact ⟨rfl, Hb7.out⟩

set_option maxRecDepth 100000 in
theorem logRefuses_walk : LawWalk Tryd.prog 3 Tryd.f3 Tv := by
  intro W base args H enc ds p hval hA hgl
  rw [Tryd.params3] at hA hval
  obtain ⟨v0, v1, d0, d1, p0, p1, rfl, rfl, rfl, h0, h1⟩ := trodAll_two hA
  obtain ⟨k, rfl, _⟩ := arg_int Tryd.underlying3 (hval 0 3 v0 rfl rfl) h0
  obtain ⟨t, rfl, ht⟩ := arg_str Tryd.underlying9 (hval 1 9 v1 rfl rfl) h1
  exact logRefuses_any k t ht W hgl

set_option maxRecDepth 100000 in
theorem logRefuses_lifted (os : Os) (started : os.Started) (H : Type) (enc : TypeId × Value → H) :
    ReturnsInHanded {} Tryd.checked os 3 .any (fun w args => (Rows.logRefusesSpec.pre enc Tryd.checked.prog Tryd.f3 [] false w args ∧ laidMetH Tryd.prog laid8 w) ∧ sizedMet enc Tryd.checked.prog Tryd.f3 (OpenSpec.ofChange Rows.logRefusesSpec) false w args) (Rows.logRefusesSpec.post enc Tryd.checked.prog Tryd.f3 false true false false) :=
  laid_lifted (C := Tryd.checked) laid8 (fun _ h => tb_of_laid8 h) [] Tryd.own started (by kernel_rfl) Tryd.func3 Tryd.laidOut (by kernel_rfl) rfl Tryd.underlying4 rfl (fun ds h => by match ds, h with | [_, _], _ => rfl)
    (ChangeSpec.witness_shaped (enc := enc) (C := Tryd.checked) (os := os) (X := fun w _ => laidMetH Tryd.prog laid8 w) false (World.doorLaid Tryd.prog 4000 os) #[.int .i64 0, .string ⟨#[]⟩] 8 rfl (World.shaped_of_RefB (by kernel_rfl) (by kernel_rfl)) (by kernel_rfl) (by kernel_rfl) (by kernel_rfl) (door_met8 os _)) logRefuses_walk

theorem logRefuses_row : Rows.LogRefusesSaid :=
  OpenClaim.holds_of_wide 3 Tryd.f3 rfl rfl rfl rfl rfl rfl rfl ⟨rfl, rfl, rfl, rfl, rfl⟩ rfl rfl rfl rfl rfl (by kernel_rfl) Tryd.func3 (by kernel_rfl)
    (of_decide_eq_true (by kernel_rfl)) (by unfold Func.isWrapper; rw [if_neg (of_decide_eq_false (by kernel_rfl))]; exact ⟨rfl, rfl⟩)
    (fun os started H enc _ => logRefuses_lifted os started H enc)

theorem logRefuses_holds : Rows.LogRefusesCardSaid :=
  Claim7.holds_tied_plain_at .later [] [.data, .data, .data, .handle, .sentinel, .sentinel, .listed, .data] true _ true
    logRefuses_row (fun _ h => by cases h) (by kernel_rfl) (fun _ h => by cases h) logRefuses_row_tie rfl ⟨rfl, rfl⟩ (by kernel_rfl) rfl
    (fun f fn hf hfn => by
      obtain rfl : f = 3 := Option.some.inj ((show Tryd.prog.funcNamed "beaconmere/merelaw4.LogRefuses" = some 3 by kernel_rfl).symm.trans hf) |>.symm
      obtain rfl : fn = Tryd.f3 := (Option.some.inj (Tryd.func3.symm.trans hfn)).symm
      refine ⟨by kernel_rfl, fun j t ht => ?_⟩
      have hall : Tryd.f3.params.toList.all (fun t => !Tryd.prog.wantsStandIn t) = true := by kernel_rfl
      have hm : t ∈ Tryd.f3.params.toList := by
        obtain ⟨hj, hje⟩ := Array.getElem?_eq_some_iff.1 ht
        rw [← hje]
        exact Array.mem_toList_iff.2 (Array.getElem_mem hj)
      have := List.all_eq_true.1 hall t hm
      exact (show Tryd.prog.wantsStandIn t = false by simpa using this))
    (by kernel_rfl)

end Go.Proofs.YtljkclebcoanaaaDoor
