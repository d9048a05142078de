/-
  PROVED HERE: merelaw2.ViewJoins returns true: of two views both are the same either way round, and with one of both again; of three in any order; who answers is alive for all who hear it. CONDITIONS: none.
-/
import Derived.Test.YtogngpppejlmmaaVJoin
namespace Go.Proofs.Ytogngpppejlmmaa
open Go.RowKit
open Go.ChangeShapes Go.WideShapes Go.ChangeAt

theorem newer_fact : newerR ⟨1, 2, 1⟩ ⟨1, 2, 0⟩ = (true, 0) := by decide

set_option maxHeartbeats 16000000 in
set_option maxRecDepth 100000 in
theorem viewJoins_any (s m n : SlV M) (k : Int) (w : World) (hs : MsAt w s) (hm : MsAt w m) (hn : MsAt w n) :
    Calls Try.prog 3 #[.slice s.A s.xs.length s.c, .slice m.A m.xs.length m.c, .slice n.A n.xs.length n.c, .int .i64 k] w fun e w' => e = .returned (.bool true) ∧ Below w.heap.size w w' := by
  have HS := hid (fun W (hW : Below w.heap.size w W) => hs.stays hW)
  have HM := hid (fun W (hW : Below w.heap.size w W) => hm.stays hW)
  have HN := hid (fun W (hW : Below w.heap.size w W) => hn.stays hW)
  have HB2 := hid (fun (p q : SlV M) (R : List M) W (hp : MsAt W p) (hq : MsAt W q) (hv : bothV p.xs q.xs = (R, 0)) (hR : chkV R = 0) => show Calls Try.prog 7 #[.slice p.A p.xs.length p.c, .slice q.A q.xs.length q.c] W (fun e w' => ∃ r : SlV M, e = .returned (.tuple #[.slice r.A r.xs.length r.c, .nilIface]) ∧ r.xs = R ∧ MsAt w' r ∧ Below W.heap.size W w') from by
    have h := vboth_any p q W hp hq
    unfold VBRes at h
    rw [hv] at h
    refine h.mono ?_
    rintro e w' ⟨v, rfl, hOw, hb⟩
    obtain ⟨r, rfl, h2, h3⟩ := MRow.of_ow hOw (vval_good hR)
    exact ⟨r, rfl, h2, h3, hb⟩)
  have HB3 := hid (fun (p q : SlV M) (c : Int) W (hp : MsAt W p) (hq : MsAt W q) (hv : (bothV p.xs q.xs).2 = c) (hc : c ≠ 0) => show Calls Try.prog 7 #[.slice p.A p.xs.length p.c, .slice q.A q.xs.length q.c] W (fun e w' => ∃ v, e = .returned (.tuple #[v, .iface 48 (.int .i64 c)]) ∧ Below W.heap.size W w') from by
    have h := vboth_any p q W hp hq
    unfold VBRes at h
    rw [hv, errV_ne hc] at h
    refine h.mono ?_
    rintro e w' ⟨v, rfl, _, hb⟩
    exact ⟨v, rfl, hb⟩)
  have HSm := hid (fun (p q : SlV M) W (hp : MsAt W p) (hq : MsAt W q) (h : p.xs = q.xs) => show Calls Try.prog 8 #[.slice p.A p.xs.length p.c, .slice q.A q.xs.length q.c] W (fun e w' => e = .returned (.bool true) ∧ Below W.heap.size W w') from by
    have := members_any p q W hp hq
    rw [h, eqsM_refl] at this
    rw [h]
    exact this)
  have HNw := hid (newer_any 1 2 1 1 2 0 w)
  simp only [newer_fact, errV_zero] at HNw
  clear hs hm hn
  go_enter Try.func3, Try.ntmps3
  go_wp2_with fail
  refine HNw.out.mono ?_
  rintro e w1 ⟨rfl, hb1⟩
  have Hb1 := hid hb1
  have hz1 := hb1.size
  clear hb1 HNw
  go_wp2_with fail
  by_cases h0 : (bothV s.xs m.xs).2 = 0
  · obtain ⟨hvl, hvm, hbv⟩ := bothV_zero h0
    obtain ⟨hvX, hcomm, hagain⟩ := view_laws hvl hvm
    have Hvl := hid hvl
    have Hvm := hid hvm
    have HvX := hid hvX
    have Hcm := hid hcomm
    have Hag := hid hagain
    have Hbv := hid hbv
    clear h0 hvl hvm hbv hvX hcomm hagain
    refine (HB2.out s m _ w1 (HS.out _ Hb1.out) (HM.out _ Hb1.out) Hbv.out HvX.out).mono ?_
    rintro e w2 ⟨x, rfl, hxx, hxA, hb2⟩
    have Hxx := hid hxx
    have HxA := hid hxA
    have Hb2 := hid (Below.step Hb1.out hb2 hz1)
    have hz2 := Hb2.out.size
    clear hxx hxA hb2
    go_wp2_with fail
    refine (HB2.out m s (allV s.xs m.xs) w2 (HM.out _ Hb2.out) (HS.out _ Hb2.out) (by rw [bothV_val Hvm.out Hvl.out, Hcm.out]) HvX.out).mono ?_
    rintro e w3 ⟨y, rfl, hyx, hyA, hb3⟩
    have Hyx := hid hyx
    have HyA := hid hyA
    have HxA3 := hid (HxA.out.stays hb3)
    have Hb3 := hid (Below.step Hb2.out hb3 hz2)
    have hz3 := Hb3.out.size
    clear hyx hyA hb3
    go_wp2_with fail
    refine (HB2.out x s (allV s.xs m.xs) w3 HxA3.out (HS.out _ Hb3.out) (by rw [Hxx.out, bothV_val HvX.out Hvl.out, Hag.out]) HvX.out).mono ?_
    rintro e w4 ⟨z, rfl, hzx, hzA, hb4⟩
    have Hzx := hid hzx
    have HzA := hid hzA
    have HxA4 := hid (HxA3.out.stays hb4)
    have HyA4 := hid (HyA.out.stays hb4)
    have Hb4 := hid (Below.step Hb3.out hb4 hz3)
    have hz4 := Hb4.out.size
    clear hzx hzA hb4
    go_wp2_with fail
    refine (HSm.out x y w4 HxA4.out HyA4.out (by rw [Hxx.out, Hyx.out])).mono ?_
    rintro e w5 ⟨rfl, hb5⟩
    have HxA5 := hid (HxA4.out.stays hb5)
    have HzA5 := hid (HzA.out.stays hb5)
    have Hb5 := hid (Below.step Hb4.out hb5 hz4)
    have hz5 := Hb5.out.size
    clear hb5
    go_wp2_with fail
    refine (HSm.out x z w5 HxA5.out HzA5.out (by rw [Hxx.out, Hzx.out])).mono ?_
    rintro e w6 ⟨rfl, hb6⟩
    have HxA6 := hid (HxA5.out.stays hb6)
    have Hb6 := hid (Below.step Hb5.out hb6 hz5)
    have hz6 := Hb6.out.size
    clear hb6
    go_wp2_with fail
    by_cases hn0 : chkV n.xs = 0
    · obtain ⟨hvA, _⟩ := allV_key HvX.out hn0
      obtain ⟨hvP, _⟩ := allV_key Hvm.out hn0
      have h3 := view_three Hvl.out Hvm.out hn0
      have Hn0 := hid hn0
      have HvA := hid hvA
      have HvP := hid hvP
      have H3 := hid h3
      have Hin := hid (fun j => view_in Hvl.out hvP j)
      rw [h3] at Hin
      clear hn0 hvA hvP h3
      refine (HB2.out x n (allV (allV s.xs m.xs) n.xs) w6 HxA6.out (HN.out _ Hb6.out) (by rw [Hxx.out, bothV_val HvX.out Hn0.out]) HvA.out).mono ?_
      rintro e w7 ⟨a, rfl, hax, haA, hb7⟩
      have Hax := hid hax
      have HaA := hid haA
      have Hb7 := hid (Below.step Hb6.out hb7 hz6)
      have hz7 := Hb7.out.size
      clear hax haA hb7
      go_wp2_with fail
      refine (HB2.out m n (allV m.xs n.xs) w7 (HM.out _ Hb7.out) (HN.out _ Hb7.out) (bothV_val Hvm.out Hn0.out) HvP.out).mono ?_
      rintro e w8 ⟨p, rfl, hpx, hpA, hb8⟩
      have Hpx := hid hpx
      have HpA := hid hpA
      have HaA8 := hid (HaA.out.stays hb8)
      have Hb8 := hid (Below.step Hb7.out hb8 hz7)
      have hz8 := Hb8.out.size
      clear hpx hpA hb8
      go_wp2_with fail
      refine (HB2.out s p (allV (allV s.xs m.xs) n.xs) w8 (HS.out _ Hb8.out) HpA.out (by rw [Hpx.out, bothV_val Hvl.out HvP.out, H3.out]) HvA.out).mono ?_
      rintro e w9 ⟨b, rfl, hbx, hbA, hb9⟩
      have Hbx := hid hbx
      have HbA := hid hbA
      have HaA9 := hid (HaA8.out.stays hb9)
      have Hb9 := hid (Below.step Hb8.out hb9 hz8)
      have hz9 := Hb9.out.size
      clear hbx hbA hb9
      go_wp2_with fail
      refine (HSm.out a b w9 HaA9.out HbA.out (by rw [Hax.out, Hbx.out])).mono ?_
      rintro e w10 ⟨rfl, hb10⟩
      have HaA10 := hid (HaA9.out.stays hb10)
      have Hb10 := hid (Below.step Hb9.out hb10 hz9)
      have hz10 := Hb10.out.size
      clear hb10
      go_wp2_with fail
      have HAns := hid (vanswer_any a k w10 HaA10.out)
      unfold VBRes at HAns
      rw [Hax.out] at HAns
      by_cases hans : (answerR (allV (allV s.xs m.xs) n.xs) k).2 = 0
      · obtain ⟨c1, c2, c3, c4⟩ := answer_laws Hvl.out HvA.out Hin.out hans
        rw [hans, errV_zero] at HAns
        have Hc1 := hid c1
        have Hc2 := hid c2
        have Hc3 := hid c3
        have Hc4 := hid c4
        clear hans c1 c2 c3 c4
        generalize (answerR (allV (allV s.xs m.xs) n.xs) k).1 = C at *
        rw [← Hax.out] at HAns
        refine HAns.out.mono ?_
        rintro e w11 ⟨v11, rfl, hOw, hb11⟩
        obtain ⟨c, rfl, hcx, hcA⟩ := MRow.of_ow hOw (vval_good Hc1.out)
        have Hcx := hid hcx
        have HcA := hid hcA
        have Hb11 := hid (Below.step Hb10.out hb11 hz10)
        have hz11 := Hb11.out.size
        clear hOw hcx hcA hb11
        go_wp2_with fail
        refine (HB2.out s c C w11 (HS.out _ Hb11.out) HcA.out (by rw [Hcx.out, bothV_val Hvl.out Hc1.out, Hc2.out]) Hc1.out).mono ?_
        rintro e w12 ⟨d, rfl, hdx, hdA, hb12⟩
        have Hdx := hid hdx
        have HdA := hid hdA
        have HcA12 := hid (HcA.out.stays hb12)
        have Hb12 := hid (Below.step Hb11.out hb12 hz11)
        have hz12 := Hb12.out.size
        clear hdx hdA hb12
        go_wp2_with fail
        refine (HSm.out d c w12 HdA.out HcA12.out (by rw [Hdx.out, Hcx.out])).mono ?_
        rintro e w13 ⟨rfl, hb13⟩
        have HdA13 := hid (HdA.out.stays hb13)
        have Hb13 := hid (Below.step Hb12.out hb13 hz12)
        have hz13 := Hb13.out.size
        clear hb13
        go_wp2_with fail
        go_loopw [23] (fun i wr => ∃ j : Nat, j ≤ d.xs.length ∧ i = .int .i64 j ∧ (∀ t, t < j → (d.xs.getD t M.zero).node ≠ k) ∧ Below w13.heap.size w13 wr) (fun i _ => d.xs.length - (intOf i).toNat)
        case atStart => exact ⟨0, Nat.zero_le _, rfl, by omega, Below.refl _ _⟩
        case round =>
          obtain ⟨j, hj, rfl, hne, hbr⟩ := hrel
          have hdl := HdA13.out.len
          unfold maxLen at hdl
          have Hne := hid hne
          have Hbr := hid (Below.step Hb13.out hbr hz13)
          clear hne
          by_cases hlt : j < d.xs.length
          · obtain ⟨g, off, hA, hg, hcells⟩ := HdA13.out.row (by omega)
            obtain ⟨k0, k1, k2⟩ := (hcells j hlt).stays hbr hg
            have hmem := getD_memD M.zero hlt
            rw [Hdx.out] at hmem
            have hst := Hc3.out _ (by rw [← Hdx.out] at hmem ⊢; exact hmem)
            obtain ⟨y, hy⟩ : ∃ y, d.xs.getD j M.zero = y := ⟨_, rfl⟩
            rw [hy] at k0 k1 k2 hst
            have Hy := hid hy
            obtain ⟨y0, y1, y2⟩ := y
            simp only at k0 k1 k2 hst
            rw [hA]
            clear hA hcells hmem hy
            by_cases hyk : y0 = k
            · have h2 := hst hyk
              have hkb : (y0 == k) = true := by rw [beq_iff_eq]; exact hyk
              have h2b : (y2 == 0) = true := by rw [beq_iff_eq]; exact h2
              clear hst hyk h2
              go_wp2_with fail
              go_ret
              exact ⟨by first | rfl | simp, Hbr.out⟩
            · have hkb : (y0 == k) = false := by rw [beq_eq_false_iff_ne]; exact hyk
              have Hyk := hid hyk
              clear hst hyk
              go_wp2_with fail
              go_roundw
              case rel =>
                refine ⟨j + 1, by omega, by go_num, fun t ht => ?_, hbr⟩
                by_cases htj : t = j
                · rw [htj, Hy.out]; exact Hyk.out
                · exact Hne.out t (by omega)
              case measure => simp [intOf]; omega
          · exfalso
            obtain ⟨e, he, hek⟩ := Hc4.out
            rw [← Hdx.out] at he
            obtain ⟨t, ht, rfl⟩ := List.getElem_of_mem he
            have := Hne.out t (by omega)
            rw [getD_get M.zero ht] at this
            exact this hek
      · have Hen := hid (errV_ne hans)
        rw [Hen.out] at HAns
        generalize (answerR (allV (allV s.xs m.xs) n.xs) k).2 = en at *
        rw [← Hax.out] at HAns
        clear hans
        refine HAns.out.mono ?_
        rintro e w11 ⟨v11, rfl, _, hb11⟩
        have Hb11 := hid (Below.step Hb10.out hb11 hz10)
        clear hb11
        go_wp2_with fail
        go_ret
        exact ⟨rfl, Hb11.out⟩
    · refine (HB3.out x n (chkV n.xs) w6 HxA6.out (HN.out _ Hb6.out) (by rw [Hxx.out, bothV_bad HvX.out hn0]) hn0).mono ?_
      rintro e w7 ⟨v7, rfl, hb7⟩
      have Hb7 := hid (Below.step Hb6.out hb7 hz6)
      have hz7 := Hb7.out.size
      have HB7 := hid (HB3.out m n (chkV n.xs) w7 (HM.out _ Hb7.out) (HN.out _ Hb7.out) (by rw [bothV_bad Hvm.out hn0]) hn0)
      generalize chkV n.xs = en at *
      clear hb7 hn0
      go_wp2_with fail
      refine HB7.out.mono ?_
      rintro e w8 ⟨v8, rfl, hb8⟩
      have Hb8 := hid (Below.step Hb7.out hb8 hz7)
      clear hb8
      go_wp2_with fail
      go_ret
      exact ⟨rfl, Hb8.out⟩
  · have HB1 := hid (HB3.out s m _ w1 (HS.out _ Hb1.out) (HM.out _ Hb1.out) rfl h0)
    generalize (bothV s.xs m.xs).2 = en at *
    clear h0
    refine HB1.out.mono ?_
    rintro e w2 ⟨v2, rfl, hb2⟩
    have Hb2 := hid (Below.step Hb1.out hb2 hz1)
    clear hb2
    go_wp2_with fail
    go_ret
    exact ⟨rfl, Hb2.out⟩

set_option maxRecDepth 100000 in
theorem viewJoins_walk : LawWalk Try.prog 3 Try.f3 (fun _ => True) := by
  intro W base args H enc ds p hval hA _
  rw [Try.params3] at hA hval
  obtain ⟨v0, v1, v2, v3, d0, d1, d2, d3, p0, p1, p2, p3, rfl, rfl, rfl, h0, h1, h2, h3⟩ := trodAll_four hA
  obtain ⟨s, rfl, hs⟩ := arg_slice Try.underlying22 codecM (pos_of_eq Try.cellsM (by decide)) (hval 0 22 v0 rfl rfl) h0
  obtain ⟨m, rfl, hm⟩ := arg_slice Try.underlying22 codecM (pos_of_eq Try.cellsM (by decide)) (hval 1 22 v1 rfl rfl) h1
  obtain ⟨n, rfl, hn⟩ := arg_slice Try.underlying22 codecM (pos_of_eq Try.cellsM (by decide)) (hval 2 22 v2 rfl rfl) h2
  obtain ⟨k, rfl, _⟩ := arg_int Try.underlying3 (hval 3 3 v3 rfl rfl) h3
  exact viewJoins_any s m n k W (MsAt_of hs) (MsAt_of hm) (MsAt_of hn)

set_option maxRecDepth 100000 in
theorem viewJoins_lifted (os : Os) (started : os.Started) (H : Type) (enc : TypeId × Value → H) :
    ReturnsInHanded {} Try.checked os 3 .any (Rows.viewJoinsSpec.pre6 enc Try.prog Try.f3 Rows.viewJoinsRow.domain false) (Rows.viewJoinsSpec.post enc Try.prog Try.f3 false true false false) :=
  law_lifted (C := Try.checked) Rows.viewJoinsRow.domain Try.own started (by kernel_rfl) Try.func3 Try.laidOut (by kernel_rfl) rfl Try.underlying4 rfl (fun ds h => by match ds, h with | [_, _, _, _], _ => rfl)
    (ChangeSpec.witness6 (enc := enc) (C := Try.checked) false ⟨#[], #[.slice none 0 0, .slice none 0 0, .slice none 0 0, .int .i64 0], []⟩ 8 (by kernel_rfl) (by kernel_rfl) (by kernel_rfl) (by kernel_rfl)) viewJoins_walk

theorem viewJoins_holds : Rows.ViewJoinsSaid :=
  OpenClaim.holds_of_wide 3 Try.f3 rfl rfl rfl rfl rfl rfl rfl ⟨rfl, rfl, rfl, rfl, rfl⟩ rfl rfl rfl rfl rfl (by kernel_rfl) Try.func3 (by kernel_rfl)
    (of_decide_eq_true (by kernel_rfl)) (by unfold Func.isWrapper; rw [if_neg (of_decide_eq_false (by kernel_rfl))]; exact ⟨rfl, rfl⟩)
    (fun os started H enc _ => viewJoins_lifted os started H enc)

end Go.Proofs.Ytogngpppejlmmaa
