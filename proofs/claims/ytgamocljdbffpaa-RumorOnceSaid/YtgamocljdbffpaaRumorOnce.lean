/-
  PROVED HERE: merelaw4.RumorOnce returns true for every member: what is not newer is no rumor. CONDITIONS: none.
-/
import Derived.Test.YtgamocljdbffpaaRumB
import Derived.Test.YtgamocljdbffpaaRumE
namespace Go.Proofs.Ytgamocljdbffpaa
open Go.RowKit
open Go.ChangeShapes Go.WideShapes Go.ChangeAt

set_option maxHeartbeats 2000000 in
theorem rumors_q (s r : SlV U) (w : World) (hs : UsAt w s) (hr : UsAt w r) :
    Calls Try.prog 7 #[.slice s.A s.xs.length s.c, .slice r.A r.xs.length r.c] w fun e w' => e = .returned (.bool (eqsU s.xs r.xs)) ∧ ∃ n, w' = w.drewN n := by
  obtain ⟨A, c, xs⟩ := s
  obtain ⟨A', c', xs'⟩ := r
  have hlen := hs.len
  have hlen' := hr.len
  unfold maxLen at hlen hlen'
  simp only at hlen hlen' ⊢
  by_cases hl : xs.length = xs'.length
  · have hll : xs'.length ≤ xs.length ∧ xs.length ≤ xs'.length := ⟨by omega, by omega⟩
    obtain ⟨hl1, hl2⟩ := hll
    have hle : ((xs.length : Int) == (xs'.length : Int)) = true := by rw [hl]; simp
    have hle2 : ((xs.length : Int) != (xs'.length : Int)) = false := by rw [hl]; simp
    have Hl := hid hl
    generalize hR : eqsU xs xs' = R
    have HR := hid hR
    clear hl hR
    go_enter Try.func7, Try.ntmps7
    go_wp2_with fail
    go_loopw [5] (fun i wr => ∃ k : Nat, k ≤ xs.length ∧ i = .int .i64 k ∧ (∀ j, j < k → eqbU (xs.getD j U.zero) (xs'.getD j U.zero) = true) ∧ ∃ n, wr = w.drewN n) (fun i _ => xs.length - (intOf i).toNat)
    case atStart => exact ⟨0, Nat.zero_le _, rfl, fun j hj => by omega, 0, rfl⟩
    case round =>
      obtain ⟨k, hk, rfl, hall, nd, rfl⟩ := hrel
      have Hall := hid hall
      clear hall
      by_cases hlt : k < xs.length
      · obtain ⟨g, off, hA, hgl, hc⟩ := hs.row (by simp only; omega)
        obtain ⟨g', off', hA', hgl', hc'⟩ := hr.row (by simp only; omega)
        simp only at hA hA' hc hc'
        subst hA hA'
        obtain ⟨k0, k1, k2, k3⟩ := (hc k hlt)
        obtain ⟨j0, j1, j2, j3⟩ := (hc' k (by omega))
        have hk0 : (0 : Int) ≤ (k : Int) := by omega
        have hk1 : (k : Int) < (xs.length : Int) := by omega
        have hk2 : (k : Int) < (xs'.length : Int) := by omega
        generalize hy : xs.getD k U.zero = y at *
        generalize hz : xs'.getD k U.zero = z at *
        have Hy := hid hy
        have Hz := hid hz
        obtain ⟨y0, y1, y2, y3⟩ := y
        obtain ⟨z0, z1, z2, z3⟩ := z
        simp only at k0 k1 k2 k3 j0 j1 j2 j3
        clear hc hc' hy hz
        have heq := fun W => eqRunU y0 y1 y2 y3 z0 z1 z2 z3 W
        rcases hq : eqbU ⟨y0, y1, y2, y3⟩ ⟨z0, z1, z2, z3⟩ with _ | _
        · have hRf : R = false := by rw [← HR.out]; exact eqsU_at hlt (by rw [Hy.out, Hz.out]; exact hq)
          have HRf := hid hRf
          clear hRf
          rw [hq] at heq
          clear hq
          go_wp2_with fail
          go_quiet (fail)
          go_wp2_with fail
          go_ret
          exact ⟨by rw [HRf.out]; rfl, _, (by first | rfl | exact World.drewN_drewN _ _ _)⟩
        · rw [hq] at heq
          have Hq := hid hq
          clear hq
          go_wp2_with fail
          go_quiet (fail)
          go_wp2_with fail
          go_roundw
          case rel =>
            refine ⟨k + 1, by omega, by go_num, fun j hj => ?_, _, (by first | rfl | exact World.drewN_drewN _ _ _)⟩
            by_cases hjk : j < k
            · exact Hall.out j hjk
            · obtain rfl : j = k := by omega
              rw [Hy.out, Hz.out]; exact Hq.out
          case measure => simp [intOf]; omega
      · obtain rfl : k = xs.length := by omega
        have hRt : R = true := by rw [← HR.out]; exact eqsU_all Hl.out Hall.out
        have HRt := hid hRt
        clear hRt
        go_wp2_with fail
        go_ret
        exact ⟨by rw [HRt.out]; rfl, _, rfl⟩
  · rw [eqsU_len hl]
    have hle : ((xs.length : Int) == (xs'.length : Int)) = false := by rw [beq_eq_false_iff_ne]; omega
    have hle2 : ((xs.length : Int) != (xs'.length : Int)) = true := by rw [bne_iff_ne]; omega
    clear hl
    go_enter Try.func7, Try.ntmps7
    go_wp2_with fail
    go_ret
    exact ⟨rfl, 0, rfl⟩

theorem ordU_one (x : U) : ordU [x] = [x] := by
  have h : UAsc [x] := List.pairwise_singleton _ _
  exact List.perm_singleton.1 (ordU_perm h)
theorem aboveB_self (m : M) : aboveB m m = false := by
  rw [← Bool.not_eq_true, aboveB_true]; omega
theorem once1 {m : M} (hr : rightB m = true) : addUR [] m = (([U.of m], true), 0) := by
  rw [addUR, if_pos (by rfl), if_pos hr]
  rfl
theorem once2 {m : M} (hr : rightB m = true) : addUR [U.of m] m = (([U.of m], false), 0) := by
  have hc : chkU [U.of m] = 0 := by
    have := addU_ok (l := []) (m := m) (by rfl) hr
    exact this
  rw [addUR, if_pos hc, if_pos hr, addU]
  have h0 : vplc m.node (um [U.of m]) = 0 := by
    show (if (U.of m).mem.node < m.node then _ else 0) = 0
    exact if_neg (by show ¬ m.node < m.node; omega)
  have h1 : vhas m.node (um [U.of m]) = true := by
    unfold vhas
    rw [h0]
    show (decide (0 < 1) && decide ((U.of m).mem.node = m.node)) = true
    rw [show (U.of m).mem.node = m.node from rfl]
    simp
  rw [if_pos h1, h0, show ([U.of m].getD 0 U.zero).mem = m from rfl, aboveB_self]
  rfl
theorem once3 {m : M} (hr : rightB m = true) : pickUR [U.of m] 6 1 = (([m], []), 0) := by
  have hc : chkU [U.of m] = 0 := addU_ok (l := []) (m := m) (by rfl) hr
  rw [pickUR, if_pos hc, if_pos (by omega), pickU]
  have hs : selU [U.of m] 6 (U.of m) = true := by
    rw [selU_iff, ordU_one]; simp
  have h6 : (6 : Int).toNat = 6 := rfl
  rw [h6]
  simp only [List.flatMap_cons, List.flatMap_nil, List.append_nil]
  rw [toldU, leftU, if_pos hs, if_pos hs, if_neg (by show ¬ ((0 : Int) + 1 < 1); omega)]
  rfl

set_option maxHeartbeats 8000000 in
set_option maxRecDepth 100000 in
theorem rumorOnce_any (x0 x1 x2 : Int) (w : World) :
    Calls Try.prog 3 #[.agg #[.int .i64 x0, .int .i64 x1, .int .i64 x2]] w fun e w' => e = .returned (.bool true) ∧ Below w.heap.size w w' := by
  have HB := hid (Blk.new w 23 #[.int .i64 x0, .int .i64 x1, .int .i64 x2])
  rcases hr : rightB ⟨x0, x1, x2⟩ with _ | _
  · have HA := hid (fun W => uadd_any ⟨none, 0, []⟩ x0 x1 x2 W (UsAt.empty _ _ _))
    rw [show addUR (SlV.mk none 0 ([] : List U)).xs ⟨x0, x1, x2⟩ = (([], false), 1) by rw [addUR, if_pos (by rfl), hr, if_neg (by decide)]] at HA
    clear hr
    go_enter Try.func3, Try.ntmps3
    go_wp2_with fail
    refine (HA.out _).mono ?_
    rintro e w1 ⟨v, he, hO, hb1⟩
    rw [errV_ne (show (1 : Int) ≠ 0 by decide)] at he
    subst he
    have Hb1 := hid (Below.step (show Below w.heap.size w (w.alloc _) by (repeat (first | with_reducible exact Below.refl _ _ | with_reducible assumption | (with_reducible refine Below.drew ?_) | (with_reducible refine Below.manyDrew ?_ _) | ((with_reducible refine Below.alloc ?_ ?_ _); rotate_left; (focus (first | omega | (dsimp only; omega) | (simp; done) | (simp; omega)))) | ((with_reducible refine Below.setCell ?_ ?_ _); rotate_left; (focus (first | omega | (dsimp only; omega) | (simp; done) | (simp; omega)))) | ((with_reducible refine Below.step ?_ (by assumption) ?_); rotate_left; (focus (first | omega | (dsimp only; omega) | (simp; done) | (simp; omega))))))) hb1 (by simp))
    clear hO hb1
    go_wp2_with fail
    go_ret
    exact ⟨rfl, Hb1.out⟩
  · have HA := hid (fun W => uadd_any ⟨none, 0, []⟩ x0 x1 x2 W (UsAt.empty _ _ _))
    rw [show addUR (SlV.mk none 0 ([] : List U)).xs ⟨x0, x1, x2⟩ = (([U.of ⟨x0, x1, x2⟩], true), 0) from once1 hr] at HA
    have H2 := hid (fun (r : SlV U) (hx : r.xs = [U.of ⟨x0, x1, x2⟩]) W (hW : UsAt W r) => show Calls Try.prog 5 #[.slice r.A r.xs.length r.c, .agg #[.int .i64 x0, .int .i64 x1, .int .i64 x2]] W (UARes W (([U.of ⟨x0, x1, x2⟩], false), 0)) from by
      have := uadd_any r x0 x1 x2 W hW
      rw [show addUR r.xs ⟨x0, x1, x2⟩ = (([U.of ⟨x0, x1, x2⟩], false), 0) by rw [hx]; exact once2 hr] at this
      exact this)
    have H3 := hid (fun (r : SlV U) (hx : r.xs = [U.of ⟨x0, x1, x2⟩]) W (hW : UsAt W r) => show Calls Try.prog 6 #[.slice r.A r.xs.length r.c, .int .i64 6, .int .i64 1] W (UPRes W (([⟨x0, x1, x2⟩], []), 0)) from by
      have := upick_any r 6 1 W hW
      rw [show pickUR r.xs 6 1 = (([⟨x0, x1, x2⟩], []), 0) by rw [hx]; exact once3 hr] at this
      exact this)
    have Hg := hid (ok_good (of_ok hr))
    clear hr
    go_enter Try.func3, Try.ntmps3
    go_wp2_with fail
    refine (HA.out _).mono ?_
    rintro e w1 ⟨v, he, hO1, hb1⟩
    rw [errV_zero] at he
    subst he
    obtain ⟨r1, rfl, hx1, hA1, -, -⟩ := UsAt.of_ow hO1 (fun y hy => by rw [List.mem_singleton.1 hy]; exact Hg.out)
    have hX1 := HB.out.belowS hb1
    have HX1 := hid hX1
    have Hb1 := hid (Below.step (show Below w.heap.size w (w.alloc _) by (repeat (first | with_reducible exact Below.refl _ _ | with_reducible assumption | (with_reducible refine Below.drew ?_) | (with_reducible refine Below.manyDrew ?_ _) | ((with_reducible refine Below.alloc ?_ ?_ _); rotate_left; (focus (first | omega | (dsimp only; omega) | (simp; done) | (simp; omega)))) | ((with_reducible refine Below.setCell ?_ ?_ _); rotate_left; (focus (first | omega | (dsimp only; omega) | (simp; done) | (simp; omega)))) | ((with_reducible refine Below.step ?_ (by assumption) ?_); rotate_left; (focus (first | omega | (dsimp only; omega) | (simp; done) | (simp; omega))))))) hb1 (by simp))
    have hz1 := Hb1.out.size
    have Hx1 := hid hx1
    have HA1 := hid hA1
    have d0 : w1.cell? ⟨w.heap.size, 0, none⟩ = some (.int .i64 x0) := hX1.cell 0
    have d1 : w1.cell? ⟨w.heap.size, 1, none⟩ = some (.int .i64 x1) := hX1.cell 1
    have d2 : w1.cell? ⟨w.heap.size, 2, none⟩ = some (.int .i64 x2) := hX1.cell 2
    clear hX1 hb1 hO1 hx1 hA1
    go_wp2_with fail
    refine (H2.out r1 Hx1.out w1 HA1.out).mono ?_
    rintro e w2 ⟨v, he, hO2, hb2⟩
    rw [errV_zero] at he
    subst he
    obtain ⟨r2, rfl, hx2, hA2, -, -⟩ := UsAt.of_ow hO2 (fun y hy => by rw [List.mem_singleton.1 hy]; exact Hg.out)
    have HX2 := hid (HX1.out.belowS hb2)
    have Hb2 := hid (Below.step Hb1.out hb2 hz1)
    have hz2 := Hb2.out.size
    have Hx2 := hid hx2
    have HA2 := hid hA2
    have HA12 := hid (HA1.out.stays hb2)
    clear hb2 hO2 hx2 hA2 d0 d1 d2
    go_wp2_with fail
    refine (H3.out r2 Hx2.out w2 HA2.out).mono ?_
    rintro e w3 ⟨v3, u3, he, hO3, hO4, hb3⟩
    rw [errV_zero] at he
    subst he
    obtain ⟨g, off, cap, rfl, hc1, hc2, hbg, hgl, hfo, hcells, _⟩ := hO3.get (Nat.zero_lt_succ _)
    obtain ⟨A4, c4, rfl, _, _, _⟩ := hO4.form
    have hX3 := HX2.out.belowS hb3
    have Hb3 := hid (Below.step Hb2.out hb3 hz2)
    have j0 : w3.cell? ⟨g, off, none⟩ = some (.int .i64 x0) := by have := hcells 0 (Nat.zero_lt_succ _) 0 (by decide); simp only [Nat.zero_mul, Nat.add_zero] at this; exact this
    have j1 : w3.cell? ⟨g, off + 1, none⟩ = some (.int .i64 x1) := by have := hcells 0 (Nat.zero_lt_succ _) 1 (by decide); simp only [Nat.zero_mul, Nat.add_zero] at this; exact this
    have j2 : w3.cell? ⟨g, off + 2, none⟩ = some (.int .i64 x2) := by have := hcells 0 (Nat.zero_lt_succ _) 2 (by decide); simp only [Nat.zero_mul, Nat.add_zero] at this; exact this
    have d0 : w3.cell? ⟨w.heap.size, 0, none⟩ = some (.int .i64 x0) := hX3.cell 0
    have d1 : w3.cell? ⟨w.heap.size, 1, none⟩ = some (.int .i64 x1) := hX3.cell 1
    have d2 : w3.cell? ⟨w.heap.size, 2, none⟩ = some (.int .i64 x2) := hX3.cell 2
    have HQ := hid (fun n => rumors_q r2 r1 (w3.drewN n) ((HA2.out.stays hb3).drewN n) ((HA12.out.stays hb3).drewN n))
    rw [Hx1.out, Hx2.out, eqsU_refl] at HQ
    have heq := fun W => eqRunM x0 x1 x2 x0 x1 x2 W
    rw [eqbM_refl] at heq
    clear hcells hX3 hb3 hO3 hO4
    simp only [List.length_singleton, List.length_nil]
    rw [Hx1.out, Hx2.out]
    go_wp2_with fail
    go_quiet ((go_at_call 7; exact Calls.quiet_of (HQ.out _)))
    go_wp2_with fail
    go_ret
    exact ⟨rfl, Below.manyDrew Hb3.out _⟩

set_option maxRecDepth 100000 in
theorem rumorOnce_walk : LawWalk Try.prog 3 Try.f3 (fun _ => True) := by
  intro W base args H enc ds p hval hA _
  rw [Try.params3] at hA hval
  obtain ⟨v0, d0, rfl, rfl, h0⟩ := trodAll_one hA
  obtain ⟨⟨x0, x1, x2⟩, rfl, hx⟩ := arg_struct Try.underlying23 codecM (hval 0 23 v0 rfl rfl) h0
  exact rumorOnce_any x0 x1 x2 W

set_option maxRecDepth 100000 in
theorem rumorOnce_lifted (os : Os) (started : os.Started) (H : Type) (enc : TypeId × Value → H) :
    ReturnsInHanded {} Try.checked os 3 .any (Rows.rumorOnceSpec.pre6 enc Try.prog Try.f3 Rows.rumorOnceRow.domain false) (Rows.rumorOnceSpec.post enc Try.prog Try.f3 false true false false) :=
  law_lifted (C := Try.checked) Rows.rumorOnceRow.domain Try.own started (by kernel_rfl) Try.func3 Try.laidOut (by kernel_rfl) rfl Try.underlying4 rfl (fun ds h => by match ds, h with | [_], _ => rfl)
    (ChangeSpec.witness6 (enc := enc) (C := Try.checked) false ⟨#[], #[.agg #[.int .i64 0, .int .i64 0, .int .i64 0]], []⟩ 8 (by kernel_rfl) (by kernel_rfl) (by kernel_rfl) (by kernel_rfl)) rumorOnce_walk

theorem rumorOnce_holds : Rows.RumorOnceSaid :=
  OpenClaim.holds_of_wide 3 Try.f3 rfl rfl rfl rfl rfl rfl rfl ⟨rfl, rfl, rfl, rfl, rfl⟩ rfl rfl rfl rfl rfl (by kernel_rfl) Try.func3 (by kernel_rfl)
    (of_decide_eq_true (by kernel_rfl)) (by unfold Func.isWrapper; rw [if_neg (of_decide_eq_false (by kernel_rfl))]; exact ⟨rfl, rfl⟩)
    (fun os started H enc _ => rumorOnce_lifted os started H enc)

end Go.Proofs.Ytgamocljdbffpaa
