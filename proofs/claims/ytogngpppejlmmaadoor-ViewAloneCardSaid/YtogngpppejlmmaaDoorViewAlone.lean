/-
  PROVED HERE: merelaw4.ViewAlone returns true: who is alive says nothing new. CONDITIONS: errors.errorType as the program's text lays it (tied by the card).
-/
import Derived.Test.YtogngpppejlmmaaDoorView5
import Derived.Test.YtogngpppejlmmaaDoorDoor
import Derived.Deep.DeepCutAuto
import Derived.Deep.CutBlock
namespace Go.Proofs.YtogngpppejlmmaaDoor
open Go.RowKit
open Go.ChangeShapes Go.WideShapes Go.ChangeAt

theorem addVR_nil {m : M} (h : rightB m = true) : addVR [] m = (([m], true), 0) := by
  rw [addVR, if_pos (show chkV [] = 0 from rfl), if_pos h]
  rfl
theorem val1V {m : M} (h : rightB m = true) : chkV [m] = 0 := vval_iff.2 ⟨by simp [VAsc], fun x hx => by rw [List.mem_singleton.1 hx]; exact h⟩
theorem answerR_one {x0 x1 x2 : Int} (h : rightB ⟨x0, x1, x2⟩ = true) : answerR [⟨x0, x1, x2⟩] x0 = if x2 = 0 then ([⟨x0, x1, x2⟩], 0) else if x1 = 100 then ([], 4) else ([⟨x0, x1 + 1, 0⟩], 0) := by
  have hn : nodeB x0 = true := nodeB_true.2 (rightB_true.1 h).1
  have hp : vplc x0 [⟨x0, x1, x2⟩] = 0 := by rw [vplc, if_neg (by simp only; omega)]
  have hv : vhas x0 [⟨x0, x1, x2⟩] = true := by unfold vhas; rw [hp]; simp
  rw [answerR, if_pos (val1V h), if_pos hn, if_pos hv, hp]
  rfl
theorem val_members (y : M) (r : SlV M) (W : World) (hx : r.xs = [y]) (hA : MsAt W r) : ∃ b off, r.A = some ⟨b, off, none⟩ ∧ b < W.heap.size ∧ MAt W b off y := by
  obtain ⟨b, off, h1, h2, h3⟩ := hA.row (by rw [hx]; simp)
  have := h3 0 (by rw [hx]; simp)
  rw [hx, Nat.zero_mul, Nat.add_zero] at this
  exact ⟨b, off, h1, h2, this⟩

set_option maxHeartbeats 8000000 in
set_option maxRecDepth 100000 in
theorem viewAlone_any (x0 x1 x2 : Int) (w : World) (hgl : Gl w) :
    Calls Tryd.prog 3 #[.agg #[.int .i64 x0, .int .i64 x1, .int .i64 x2]] w fun e w' => e = .returned (.bool true) ∧ Below w.heap.size w w' := by
  have HG := hid (fun W (hW : Below w.heap.size w W) => hgl.belowS hW)
  have HX := hid (Blk.new w 23 #[.int .i64 x0, .int .i64 x1, .int .i64 x2])
  clear hgl
  have HAd := hid (fun W => vadd_any ⟨none, 0, []⟩ x0 x1 x2 W (MsAt.empty _ _ _))
  by_cases hr : rightB ⟨x0, x1, x2⟩ = true
  · simp only [addVR_nil hr, List.length_nil] at HAd
    have hrt := rightB_true.1 hr
    simp only at hrt
    obtain ⟨⟨hn0, hn1⟩, ⟨hl0, hl1⟩, hs0, hs1⟩ := hrt
    have Hgood := hid (vval_good (val1V hr))
    have HAn := hid (answerR_one hr)
    have Hr := hid hr
    clear hr
    go_enter Tryd.func3, Tryd.ntmps3
    go_wp2_with fail
    refine (HAd.out _).mono ?_
    rintro e w1 ⟨v1, rfl, hOw, hb1⟩
    obtain ⟨r, rfl, hrx, hrA, _, _⟩ := MsAt.of_ow hOw Hgood.out
    have hX1 := HX.out.belowS hb1
    have HX1 := hid hX1
    have Hb1 := hid (Below.step (show Below w.heap.size w (w.alloc _) by (repeat (first | with_reducible exact Below.refl _ _ | with_reducible assumption | (with_reducible refine Below.drew ?_) | (with_reducible refine Below.manyDrew ?_ _) | ((with_reducible refine Below.alloc ?_ ?_ _); rotate_left; (focus (first | omega | (dsimp only; omega) | (simp; done) | (simp; omega)))) | ((with_reducible refine Below.setCell ?_ ?_ _); rotate_left; (focus (first | omega | (dsimp only; omega) | (simp; done) | (simp; omega)))) | ((with_reducible refine Below.step ?_ (by assumption) ?_); rotate_left; (focus (first | omega | (dsimp only; omega) | (simp; done) | (simp; omega))))))) hb1 (by simp))
    have hz1 := Hb1.out.size
    have d0 : w1.cell? ⟨w.heap.size, 0, none⟩ = some (.int .i64 x0) := hX1.cell 0
    have HrA := hid hrA
    have Hrx := hid hrx
    have HAns := hid (vanswer_any r x0 w1 hrA)
    rw [hrx, HAn.out] at HAns
    unfold VBRes at HAns
    rw [hrx]
    simp only [errV_zero, List.length_cons, List.length_nil, Nat.zero_add]
    simp only [List.length_cons, List.length_nil, Nat.zero_add] at HAns
    have hlw1 := hX1.lt
    clear hOw hb1 hX1 hrA hrx HAd
    go_wp2_with fail
    by_cases h0 : x2 = 0
    · rw [if_pos h0] at HAns
      rw [errV_zero] at HAns
      have h0b : (x2 == 0) = true := by rw [beq_iff_eq]; exact h0
      clear h0
      refine HAns.out.mono ?_
      rintro e w2 ⟨v2, rfl, hOw2, hb2⟩
      obtain ⟨y, rfl, hyx, hyA, _, _⟩ := MsAt.of_ow hOw2 Hgood.out
      have hX2 := HX1.out.belowS hb2
      have e2 : w2.cell? ⟨w.heap.size, 2, none⟩ = some (.int .i64 x2) := hX2.cell 2
      have hl2 := hX2.lt
      have Hb2 := hid (Below.step Hb1.out hb2 hz1)
      have hz2 := Hb2.out.size
      have HM := hid (members_any y r w2 hyA (HrA.out.stays hb2))
      rw [hyx, Hrx.out, eqsM_refl] at HM
      rw [hyx]
      simp only [List.length_cons, List.length_nil, Nat.zero_add] at HM ⊢
      clear hOw2 hb2 hyx hyA hX2 d0
      go_wp2_with fail
      refine HM.out.mono ?_
      rintro e w3 ⟨rfl, hb3⟩
      have Hb3 := hid (Below.step Hb2.out hb3 hz2)
      clear hb3
      go_wp2_with fail
      go_ret
      exact ⟨rfl, Hb3.out⟩
    · rw [if_neg h0] at HAns
      have h0b : (x2 == 0) = false := by rw [beq_eq_false_iff_ne]; exact h0
      clear h0
      by_cases h1 : x1 = 100
      · rw [if_pos h1] at HAns
        have h1b : (x1 == 100) = true := by rw [beq_iff_eq]; exact h1
        clear h1
        refine HAns.out.mono ?_
        rintro e w2 ⟨v2, rfl, _, hb2⟩
        have hX2 := HX1.out.belowS hb2
        have e1 : w2.cell? ⟨w.heap.size, 1, none⟩ = some (.int .i64 x1) := hX2.cell 1
        have e2 : w2.cell? ⟨w.heap.size, 2, none⟩ = some (.int .i64 x2) := hX2.cell 2
        have hl2 := hX2.lt
        have Hb2 := hid (Below.step Hb1.out hb2 hz1)
        have hz2 := Hb2.out.size
        have HE4 := hid (error_any 4 4 w2 (HG.out _ Hb2.out))
        rw [errV_ne (by decide), beq_self_eq_true] at HE4
        simp only
        rw [errV_ne (show (4 : Int) ≠ 0 by decide)]
        clear hb2 hX2 d0
        go_wp2_with fail
        refine HE4.out.mono ?_
        rintro e w3 ⟨rfl, hb3⟩
        have Hb3 := hid (Below.step Hb2.out hb3 hz2)
        clear hb3
        go_wp2_with fail
        go_ret
        exact ⟨rfl, Hb3.out⟩
      · rw [if_neg h1] at HAns
        rw [errV_zero] at HAns
        have h1b : (x1 == 100) = false := by rw [beq_eq_false_iff_ne]; exact h1
        have hgy : ∀ z ∈ ([⟨x0, x1 + 1, 0⟩] : List M), z.good := fun z hz => by
          rw [List.mem_singleton.1 hz]
          exact ⟨by simp only; omega, by simp only; omega, by simp only; omega⟩
        have hry : rightB ⟨x0, x1 + 1, 0⟩ = true := rightB_true.2 ⟨⟨hn0, hn1⟩, ⟨by simp only; omega, by simp only; omega⟩, by simp, by simp⟩
        have hN1 : newerR ⟨x0, x1 + 1, 0⟩ ⟨x0, x1, x2⟩ = (true, 0) := by
          rw [newerR, if_pos hry, if_pos Hr.out, if_pos rfl, show aboveB ⟨x0, x1 + 1, 0⟩ ⟨x0, x1, x2⟩ = true from aboveB_true.2 (.inl (by simp only; omega))]
        have hN2 : newerR ⟨x0, x1, x2⟩ ⟨x0, x1 + 1, 0⟩ = (false, 0) := by
          rw [newerR, if_pos hry, if_pos Hr.out, if_pos rfl]
          have : aboveB ⟨x0, x1, x2⟩ ⟨x0, x1 + 1, 0⟩ = false := by
            rw [← Bool.not_eq_true, aboveB_true]
            simp only
            omega
          rw [this]
        have HN1 := hid (fun W => newer_any x0 (x1 + 1) 0 x0 x1 x2 W)
        have HN2 := hid (fun W => newer_any x0 x1 x2 x0 (x1 + 1) 0 W)
        simp only [hN1, errV_zero] at HN1
        simp only [hN2, errV_zero] at HN2
        clear h1 hry hN1 hN2
        refine HAns.out.mono ?_
        rintro e w2 ⟨v2, rfl, hOw2, hb2⟩
        obtain ⟨y, rfl, hyx, hyA, _, _⟩ := MsAt.of_ow hOw2 hgy
        obtain ⟨b, off, hyb, hbl, hyc⟩ := val_members _ y w2 hyx hyA
        obtain ⟨a0, a1, a2⟩ := hyc
        simp only at a0 a1 a2
        have hX2 := HX1.out.belowS hb2
        have e0 : w2.cell? ⟨w.heap.size, 0, none⟩ = some (.int .i64 x0) := hX2.cell 0
        have e1 : w2.cell? ⟨w.heap.size, 1, none⟩ = some (.int .i64 x1) := hX2.cell 1
        have e2 : w2.cell? ⟨w.heap.size, 2, none⟩ = some (.int .i64 x2) := hX2.cell 2
        have hl2 := hX2.lt
        have HX2 := hid hX2
        have Hb2 := hid (Below.step Hb1.out hb2 hz1)
        have hz2 := Hb2.out.size
        rw [hyx, hyb]
        simp only [List.length_cons, List.length_nil, Nat.zero_add]
        clear hOw2 hb2 hyx hyA hX2 d0 hyb hgy
        go_upto_region 11 with fail
        go_cut [8, 9] (fun t u wx => t = .bool true ∧ u = .nilIface ∧ Below w2.heap.size w2 wx)
        case first =>
          go_region_law (first | (go_simp; go_at_call 10; refine (HN1.out _).mono ?_; rintro e wj ⟨rfl, hbj⟩; obtain ⟨hcj, hfj⟩ := bcell hbj; have hzj := hbj.size; (try simp only [World.size_alloc] at hzj)))
          all_goals
            go_wp2_with fail
            go_meet
            exact ⟨rfl, rfl, by (repeat (first | with_reducible exact Below.refl _ _ | with_reducible assumption | (with_reducible refine Below.drew ?_) | (with_reducible refine Below.manyDrew ?_ _) | ((with_reducible refine Below.alloc ?_ ?_ _); rotate_left; (focus (first | omega | (dsimp only; omega) | (simp; done) | (simp; omega)))) | ((with_reducible refine Below.setCell ?_ ?_ _); rotate_left; (focus (first | omega | (dsimp only; omega) | (simp; done) | (simp; omega)))) | ((with_reducible refine Below.step ?_ (by assumption) ?_); rotate_left; (focus (first | omega | (dsimp only; omega) | (simp; done) | (simp; omega))))))⟩
        case rest =>
        obtain ⟨rfl, rfl, hb3⟩ := hcut
        obtain ⟨w3, rfl⟩ : ∃ w3 : World, w3 = wc := ⟨_, rfl⟩
        have q0 := (hb3.cell (p := ⟨b, off, none⟩) hbl).trans a0
        have q1 := (hb3.cell (p := ⟨b, off + 1, none⟩) hbl).trans a1
        have q2 := (hb3.cell (p := ⟨b, off + 2, none⟩) hbl).trans a2
        have hX3 := HX2.out.belowS hb3
        have p0 : w3.cell? ⟨w.heap.size, 0, none⟩ = some (.int .i64 x0) := hX3.cell 0
        have p1 : w3.cell? ⟨w.heap.size, 1, none⟩ = some (.int .i64 x1) := hX3.cell 1
        have p2 : w3.cell? ⟨w.heap.size, 2, none⟩ = some (.int .i64 x2) := hX3.cell 2
        have hl3 := hX3.lt
        have hbl3 : b < w3.heap.size := Nat.lt_of_lt_of_le hbl hb3.size
        have Hb3 := hid (Below.step Hb2.out hb3 hz2)
        have hz3 := Hb3.out.size
        clear hb3 hX3 a0 a1 a2 e0 e1 e2
        go_upto_region 12 with fail
        go_cut [10, 11] (fun t u wx => t = .bool false ∧ u = .nilIface ∧ Below w3.heap.size w3 wx)
        case first =>
          go_region_law (first | (go_simp; go_at_call 10; refine (HN2.out _).mono ?_; rintro e wj ⟨rfl, hbj⟩; obtain ⟨hcj, hfj⟩ := bcell hbj; have hzj := hbj.size; (try simp only [World.size_alloc] at hzj)))
          all_goals
            go_wp2_with fail
            go_meet
            exact ⟨rfl, rfl, by (repeat (first | with_reducible exact Below.refl _ _ | with_reducible assumption | (with_reducible refine Below.drew ?_) | (with_reducible refine Below.manyDrew ?_ _) | ((with_reducible refine Below.alloc ?_ ?_ _); rotate_left; (focus (first | omega | (dsimp only; omega) | (simp; done) | (simp; omega)))) | ((with_reducible refine Below.setCell ?_ ?_ _); rotate_left; (focus (first | omega | (dsimp only; omega) | (simp; done) | (simp; omega)))) | ((with_reducible refine Below.step ?_ (by assumption) ?_); rotate_left; (focus (first | omega | (dsimp only; omega) | (simp; done) | (simp; omega))))))⟩
        case rest =>
        obtain ⟨rfl, rfl, hb4⟩ := hcut
        have Hb4 := hid (Below.step Hb3.out hb4 hz3)
        clear hb4 q0 q1 q2 p0 p1 p2
        go_wp2_with fail
        go_ret
        exact ⟨rfl, Hb4.out⟩
  · have hN : addVR [] ⟨x0, x1, x2⟩ = (([], false), 1) := by rw [addVR, if_pos (show chkV [] = 0 from rfl), if_neg hr]
    simp only [hN, List.length_nil] at HAd
    clear hr hN
    go_enter Tryd.func3, Tryd.ntmps3
    go_wp2_with fail
    refine (HAd.out _).mono ?_
    rintro e w1 ⟨v1, rfl, _, hb1⟩
    have Hb1 := hid (Below.step (show Below w.heap.size w (w.alloc _) by (repeat (first | with_reducible exact Below.refl _ _ | with_reducible assumption | (with_reducible refine Below.drew ?_) | (with_reducible refine Below.manyDrew ?_ _) | ((with_reducible refine Below.alloc ?_ ?_ _); rotate_left; (focus (first | omega | (dsimp only; omega) | (simp; done) | (simp; omega)))) | ((with_reducible refine Below.setCell ?_ ?_ _); rotate_left; (focus (first | omega | (dsimp only; omega) | (simp; done) | (simp; omega)))) | ((with_reducible refine Below.step ?_ (by assumption) ?_); rotate_left; (focus (first | omega | (dsimp only; omega) | (simp; done) | (simp; omega))))))) hb1 (by simp))
    rw [errV_ne (show (1 : Int) ≠ 0 by decide)]
    clear hb1
    go_wp2_with fail
    go_ret
    exact ⟨rfl, Hb1.out⟩

set_option maxRecDepth 100000 in
theorem viewAlone_walk : LawWalk Tryd.prog 3 Tryd.f3 Gl := by
  intro W base args H enc ds p hval hA hgl
  rw [Tryd.params3] at hA hval
  obtain ⟨v0, d0, rfl, rfl, h0⟩ := trodAll_one hA
  obtain ⟨⟨x0, x1, x2⟩, rfl, _⟩ := arg_struct Tryd.underlying23 codecM (hval 0 23 v0 rfl rfl) h0
  exact viewAlone_any x0 x1 x2 W hgl

set_option maxRecDepth 100000 in
theorem viewAlone_lifted (os : Os) (started : os.Started) (H : Type) (enc : TypeId × Value → H) :
    ReturnsInHanded {} Tryd.checked os 3 .any (fun w args => (Rows.viewAloneSpec.pre enc Tryd.checked.prog Tryd.f3 [] false w args ∧ laidMetH Tryd.prog theLaid w) ∧ sizedMet enc Tryd.checked.prog Tryd.f3 (OpenSpec.ofChange Rows.viewAloneSpec) false w args) (Rows.viewAloneSpec.post enc Tryd.checked.prog Tryd.f3 false true false false) :=
  laid_lifted (C := Tryd.checked) theLaid (fun _ h => handle_of_laid h) [] Tryd.own started (by kernel_rfl) Tryd.func3 Tryd.laidOut (by kernel_rfl) rfl Tryd.underlying4 rfl (fun ds h => by match ds, h with | [_], _ => rfl)
    (ChangeSpec.witness_at (enc := enc) (C := Tryd.checked) (os := os) (X := fun w _ => laidMetH Tryd.prog theLaid w) false (laidWorld os) #[.agg #[.int .i64 0, .int .i64 0, .int .i64 0]] 8 rfl (by kernel_rfl) (by kernel_rfl) (by kernel_rfl) (by kernel_rfl) (by kernel_rfl) (laidWorld_met os _)) viewAlone_walk

theorem viewAlone_row : Rows.ViewAloneSaid :=
  OpenClaim.holds_of_wide 3 Tryd.f3 rfl rfl rfl rfl rfl rfl rfl ⟨rfl, rfl, rfl, rfl, rfl⟩ rfl rfl rfl rfl rfl (by kernel_rfl) Tryd.func3 (by kernel_rfl)
    (of_decide_eq_true (by kernel_rfl)) (by unfold Func.isWrapper; rw [if_neg (of_decide_eq_false (by kernel_rfl))]; exact ⟨rfl, rfl⟩)
    (fun os started H enc _ => viewAlone_lifted os started H enc)

theorem viewAlone_holds : Rows.ViewAloneCardSaid :=
  Claim7.holds_tied_plain_at .later [] [.handle] true _ true
    viewAlone_row (fun _ h => by cases h) (by kernel_rfl) (fun _ h => by cases h) viewAlone_row_tie rfl ⟨rfl, rfl⟩ (by kernel_rfl) rfl
    (fun f fn hf hfn => by
      obtain rfl : f = 3 := Option.some.inj ((show Tryd.prog.funcNamed "beaconmere/merelaw4.ViewAlone" = some 3 by kernel_rfl).symm.trans hf) |>.symm
      obtain rfl : fn = Tryd.f3 := (Option.some.inj (Tryd.func3.symm.trans hfn)).symm
      refine ⟨by kernel_rfl, fun j t ht => ?_⟩
      have hall : Tryd.f3.params.toList.all (fun t => !Tryd.prog.wantsStandIn t) = true := by kernel_rfl
      have hm : t ∈ Tryd.f3.params.toList := by
        obtain ⟨hj, hje⟩ := Array.getElem?_eq_some_iff.1 ht
        rw [← hje]
        exact Array.mem_toList_iff.2 (Array.getElem_mem hj)
      have := List.all_eq_true.1 hall t hm
      exact (show Tryd.prog.wantsStandIn t = false by simpa using this))
    (by kernel_rfl)

end Go.Proofs.YtogngpppejlmmaaDoor
