/-
  PROVED HERE: merelaw1.RingFew returns true: who comes takes only for himself. CONDITIONS: the library's tables as the program's text lays them (tied by the card).
-/
import Derived.Test.YtepddjfbkjplfaaDoorRgUse
import Derived.Test.YtepddjfbkjplfaaDoorDoorT
import Derived.ChangeVars
import Derived.JoinedOf
import Derived.Stop.Joined
import Derived.BigQuiet
namespace Go.Proofs.YtepddjfbkjplfaaDoor
open Go.RowKit
open Go.ChangeShapes Go.WideShapes Go.ChangeAt

theorem IntsAt.takeK {w : World} {s : SlV Int} (h : IntsAt w s) (k : Nat) : IntsAt w ⟨s.A, s.c, s.xs.take k⟩ := ⟨fun h0 => by
    have hl : (s.xs.take k).length ≤ s.xs.length := List.length_take_le' ..
    obtain ⟨b, off, h1, h2, h3⟩ := h.row (by simp only at h0; omega)
    refine ⟨b, off, h1, h2, fun i hi => ?_⟩
    simp only at hi
    have hi' : i < s.xs.length := by omega
    rw [h3 i hi', getD_get _ hi', getD_get _ hi, List.getElem_take], Nat.le_trans (List.length_take_le' ..) h.len⟩
theorem in_take (s : SlV Int) (k : Nat) (hk : k ≤ s.xs.length) (n : Int) (w : World) (hs : IntsAt w s) :
    Calls Tryd.prog 7 #[.slice s.A k s.c, .int .i64 n] w fun e w' => e = .returned (.bool (inL n (s.xs.take k))) ∧ w' = w := by
  have h := in_any ⟨s.A, s.c, s.xs.take k⟩ n w (hs.takeK k)
  rw [List.length_take, Nat.min_eq_left hk] at h
  exact h.mono fun _ _ ⟨a, b⟩ => ⟨a, b.symm⟩
theorem nodup_take {l : List Int} (h : l.Nodup) {i : Nat} (hi : i < l.length) : inL (l.getD i 0) (l.take i) = false := by
  rw [inL_false]
  intro hx
  obtain ⟨j, hj, he⟩ := List.getElem_of_mem hx
  rw [List.length_take] at hj
  rw [List.getElem_take, getD_get 0 hi] at he
  exact List.pairwise_iff_getElem.1 h j i (by omega) hi (by omega) he
/-- what is asked of the points of nodes -/
theorem few_facts {l : List Int} {m : Nat} {more key many : Int} (h0 : ptsE l (m : Int) = 0) (hg : rgE (ptsC l m) key = 0) :
    inL (ownerP (ptsC l m) key) l = true ∧
    (ptsE (l ++ [more]) (m : Int) = 0 → rgE (ptsC (l ++ [more]) m) key = 0 ∧ (ownerP (ptsC (l ++ [more]) m) key = ownerP (ptsC l m) key ∨ ownerP (ptsC (l ++ [more]) m) key = more)) ∧
    (ownsE (ptsC l m) key many = 0 → ∀ x, x = ownL many (rotP (ptsC l m) (firstP (ptsC l m) key)) → (x.length : Int) = many ∧ 1 ≤ many ∧ x.getD 0 0 = ownerP (ptsC l m) key ∧ x.Nodup ∧ ∀ n ∈ x, inL n l = true) := by
  obtain ⟨⟨h1, h2, h3⟩, h4, h5⟩ := ptsE_ok h0
  obtain ⟨hr, hk⟩ := rgE_zero hg
  have hm : 0 < m := by omega
  refine ⟨inL_true.2 (owner_in h1 hm key), fun he => ?_, fun ho x hx => ?_⟩
  · have hr2 := ptsE_right he
    rw [Int.toNat_natCast] at hr2
    exact ⟨by rw [rgE, if_pos hr2, if_pos hk], ring_few h1 hm key⟩
  · obtain ⟨-, o1, -, o3⟩ := ownsE_zero ho
    obtain ⟨f1, f2, -⟩ := ownL_facts many (rotP (ptsC l m) (firstP (ptsC l m) key))
    have hp := ptsC_pos h1 hm
    obtain ⟨r, hrr⟩ := rotP_head (firstP_lt key hp)
    obtain ⟨t, ht⟩ := ownL_head many o1 ((ptsC l m).getD (firstP (ptsC l m) key) Pt.zero) r
    rw [← hrr] at ht
    subst hx
    refine ⟨o3, o1, by rw [ht]; rfl, f1, fun n hn => ?_⟩
    obtain ⟨p, hp1, rfl⟩ := f2 n hn
    obtain ⟨n', hn', i, hi, rfl⟩ := ptsC_mem.1 (rotP_mem hp1)
    exact inL_true.2 hn'
theorem three_facts {l : List Pt} (h : l = ptsC [3] 1) : l.length = 1 ∧ ∃ x0, l.getD 0 Pt.zero = ⟨x0, 3⟩ := by
  have h1 := ptsC_pos (l := [3]) (each := 1) (by simp) (by decide)
  have h2 := ptsC_length [3] 1
  rw [← h] at h1 h2
  have h3 : l.length = 1 := by
    have : ([3] : List Int).length * 1 = 1 := rfl
    omega
  refine ⟨h3, (l.getD 0 Pt.zero).pos, ?_⟩
  have hn := lone_nodes (node := 3) (each := 1) (l.getD 0 Pt.zero) (by rw [← h]; exact getD_memD Pt.zero h1)
  generalize l.getD 0 Pt.zero = x at *
  cases x
  simp only at hn
  rw [hn]

set_option maxHeartbeats 8000000 in
set_option maxRecDepth 100000 in
theorem ringFew_any (s : SlV Int) (each more key many : Int) (w : World) (hs : IntsAt w s) (hok : s.ok) (htb : Tb w) :
    Calls Tryd.prog 3 #[.slice s.A s.xs.length s.c, .int .i64 each, .int .i64 more, .int .i64 key, .int .i64 many] w fun e w' => e = .returned (.bool true) ∧ Below w.heap.size w w' := by
  obtain ⟨X, hX⟩ : ∃ X, X = w.alloc (.cells #[.int .i64 3] 3) := ⟨_, rfl⟩
  have hbX : Below w.heap.size w X := by rw [hX]; exact (Below.refl _ _).alloc (Nat.le_refl _) _
  have hs1 : IntsAt X ⟨some ⟨w.heap.size, 0, none⟩, 1, [3]⟩ := by
    rw [hX]; exact IntsAt.of_blk (l := [3]) (Blk.new w 3 (ints [3])) 1 (by show 1 ≤ maxLen; unfold maxLen; omega)
  have HPt := hid (gpoints_any ⟨some ⟨w.heap.size, 0, none⟩, 1, [3]⟩ 1 X hs1 ⟨Nat.le_refl _, by show 1 ≤ maxLen; unfold maxLen; omega⟩ (htb.belowS hbX))
  unfold GPts at HPt
  rw [show ptsE [3] 1 = 0 by decide, if_pos rfl, errV_zero, show (1 : Int).toNat = 1 from rfl] at HPt
  have HT := hid (fun W (hW : Below w.heap.size w W) => htb.belowS hW)
  have HS := hid (fun W (hW : Below w.heap.size w W) => hs.stays0 hW)
  have HPn := hid (fun W (hW : Below w.heap.size w W) => gpoints_any s each W (hs.stays0 hW) hok (htb.belowS hW))
  have hsl := hs.len
  obtain ⟨hslc, -⟩ := hok
  unfold maxLen at hsl
  have hzX := hbX.size
  have HbX := hid hbX
  have HX := hid hX
  clear hs1 htb hX hbX hs
  go_enter Tryd.func3, Tryd.ntmps3
  go_wp2_with fail
  rw [← HX.out]
  refine HPt.out.mono ?_
  rintro e w1 ⟨f, rfl, hfx, hfA, -, hb1⟩
  obtain ⟨hf1, x0, hf2⟩ := three_facts hfx
  obtain ⟨b0, off0, hA0, hg0, hc0⟩ := hfA.row (by omega)
  obtain ⟨-, k1⟩ := hc0 0 (by omega)
  rw [hf2] at k1
  simp only at k1
  rw [hA0, hf1]
  have Hb1 := hid (Below.step HbX.out hb1 hzX)
  have hz1 := Hb1.out.size
  have HP1 := hid (HPn.out w1 Hb1.out)
  clear hb1 hfx hfA hc0 hf1 hf2 hA0 HPt HPn
  rw [Nat.zero_mul, Nat.add_zero] at k1
  go_wp2_with fail
  refine HP1.out.mono ?_
  clear HP1 k1
  rintro e w2 ⟨r, rfl, hrx, hrA, hro, hb2⟩
  by_cases h0 : ptsE s.xs each = 0
  case neg =>
    rw [errV_ne h0]
    generalize ptsE s.xs each = en at *
    have Hb2 := hid (Below.step Hb1.out hb2 hz1)
    clear hb2 hrx hrA hro h0
    go_wp2_with fail
    go_ret
    exact ⟨rfl, Hb2.out⟩
  case pos =>
  rw [h0, errV_zero]
  obtain ⟨⟨-, hs6, -⟩, he1, -⟩ := ptsE_ok h0
  obtain ⟨m, rfl⟩ := Int.eq_ofNat_of_zero_le (show 0 ≤ each by omega)
  rw [if_pos h0, Int.toNat_natCast] at hrx
  have Hb2 := hid (Below.step Hb1.out hb2 hz1)
  have hz2 := Hb2.out.size
  have HO1 := hid (rowner_any r key w2 hrA (HT.out w2 Hb2.out))
  have HO2 := hid (fun W (hW : Below w2.heap.size w2 W) => rowners_any r key many W (hrA.stays hW) hro ((HT.out w2 Hb2.out).belowS hW))
  have Hrx := hid hrx
  have H0 := hid h0
  clear hb2 hrx hrA hro h0
  go_wp2_with fail
  refine HO1.out.mono ?_
  clear HO1
  rintro e w3 ⟨rfl, hb3⟩
  have Hb23 := hid hb3
  have Hb3 := hid (Below.step Hb2.out hb3 hz2)
  have hz3 := Hb3.out.size
  have hz23 := hb3.size
  clear hb3
  by_cases hg : rgE r.xs key = 0
  case neg =>
    rw [if_neg hg, errV_ne hg]
    generalize rgE r.xs key = en at *
    clear hg HO2
    go_wp2_with fail
    go_ret
    exact ⟨rfl, Hb3.out⟩
  case pos =>
  rw [if_pos hg, hg, errV_zero]
  rw [Hrx.out] at hg
  have hFF := few_facts (more := more) (many := many) H0.out hg
  rw [← Hrx.out] at hFF
  obtain ⟨q1, q2, q3⟩ := hFF
  have Hq2 := hid q2
  have HO3 := hid (fun W (hW : Below w2.heap.size w2 W) => HO2.out W hW)
  unfold ROwns at HO3
  have Hq3 := hid q3
  have HIn1 := hid (in_any s (ownerP r.xs key) w3 (HS.out w3 Hb3.out))
  rw [q1] at HIn1
  generalize ownerP r.xs key = a at *
  generalize ownsE r.xs key many = en at *
  clear HO2 q1 q2 q3 hg Hrx H0
  go_wp2_with fail
  refine HIn1.out.mono ?_
  clear HIn1
  rintro e w4 ⟨rfl, hw4⟩
  obtain rfl : w3 = w4 := hw4
  have HSA := hid (HS.out w3 Hb3.out)
  go_wp2_with (at_builtin; refine appIs _ w3.heap.size _ [] s HSA.out (Ow.nil _ _ _ _ _) rfl _ _ rfl rfl rfl ?_ ?_ ?_)
  any_goals (first | (with_reducible rfl) | omega | (simp; omega))
  intro v5 w5 h5 f5 o5
  have HO5 := hid (show Ow cellI 1 w3.heap.size 3 w5 v5 s.xs from h5)
  have hb35 : Below w3.heap.size w3 w5 := f5.below0 (Nat.le_refl _) (fun i hi => by cases hi)
  have Hb35 := hid hb35
  have hz35 := hb35.size
  clear h5 f5 o5 hb35 HSA
  go_wp2_with (at_builtin; refine appI _ w3.heap.size _ s.xs more HO5.out rfl _ _ rfl rfl rfl ?_ ?_ ?_ ?_)
  any_goals (first | (with_reducible rfl) | omega)
  intro v6 w6 h6 f6 o6
  have hb36 : Below w3.heap.size w3 w6 := Hb35.out.trans (f6.below0 hz35 (fun i hi => HO5.out.ge _ hi))
  have Hb36 := hid hb36
  have Hb6 := hid (Below.step Hb3.out hb36 hz3)
  have hz6 := Hb6.out.size
  obtain ⟨t, rfl, htx, htA, hto, -⟩ := IntsAt.of_ow h6
  have HPw := hid (gpoints_any t m w6 htA hto (HT.out w6 Hb6.out))
  unfold GPts at HPw
  have Htx := hid htx
  obtain ⟨ev, hev⟩ : ∃ ev, errV (ptsE t.xs m) = ev := ⟨_, rfl⟩
  rw [hev] at HPw
  have Hev := hid hev
  clear h6 f6 o6 hb36 htA hto htx hev HO5 Hb35
  go_wp2_with fail
  refine HPw.out.mono ?_
  clear HPw
  rintro e w7 ⟨q, rfl, hqx, hqA, -, hb7⟩
  have Hb7 := hid (Below.step Hb6.out hb7 hz6)
  have Hb37 := hid (Below.step Hb36.out hb7 Hb36.out.size)
  have hz7 := Hb7.out.size
  have HOq := hid (rowner_any q key w7 hqA (HT.out w7 Hb7.out))
  have Hqf := hid (show ptsE t.xs m = 0 → rgE q.xs key = 0 ∧ (ownerP q.xs key = a ∨ ownerP q.xs key = more) from fun h => by
    rw [if_pos h, Int.toNat_natCast] at hqx
    rw [hqx]
    rw [Htx.out] at h ⊢
    exact Hq2.out h)
  clear hb7 hqx hqA Hq2 Hb36
  go_upto_region 17 with fail
  go_cut [79] (fun b wx => (∃ bb : Bool, b = .bool bb ∧ (bb = true ↔ ptsE t.xs m = 0)) ∧ wx = w7)
  case first =>
    by_cases h0 : ptsE t.xs m = 0
    · obtain rfl : ev = .nilIface := by rw [← Hev.out, h0, errV_zero]
      have H0 := hid h0
      clear h0
      go_wp2_with fail
      go_meet
      exact ⟨⟨true, rfl, by simp [H0.out]⟩, rfl⟩
    · obtain ⟨cv, hcv⟩ : ∃ cv, ev = .iface 39 cv := ⟨_, by rw [← Hev.out, errV_ne h0]⟩
      subst hcv
      have H0 := hid h0
      clear h0
      go_wp2_with fail
      go_meet
      exact ⟨⟨false, rfl, by simp [H0.out]⟩, rfl⟩
  case rest =>
  obtain ⟨⟨bb, rfl, hbb⟩, hwc⟩ := hcut
  obtain rfl : w7 = wc := hwc.symm
  have Hbb := hid hbb
  clear hbb
  go_upto_if 79 with fail
  go_cut [] (fun wx => Below w7.heap.size w7 wx)
  case first =>
    rcases bb with _ | _
    · go_wp2_with fail
      go_meet
      exact Below.refl _ _
    · obtain ⟨g1, g2⟩ := Hqf.out (Hbb.out.1 rfl)
      rw [g1, if_pos rfl, errV_zero] at HOq
      clear g1 Hqf Hbb
      generalize ownerP q.xs key = b at *
      by_cases hba : b = a
      · subst hba
        clear g2
        go_wp2_with fail
        refine HOq.out.mono ?_
        rintro e w8 ⟨rfl, hb8⟩
        have Hb8 := hid hb8
        clear hb8
        go_wp2_with fail
        go_meet
        exact Hb8.out
      · obtain rfl : b = more := g2.resolve_left hba
        have hne : (b != a) = true := by rw [bne_iff_ne]; exact hba
        clear g2
        go_wp2_with fail
        refine HOq.out.mono ?_
        rintro e w8 ⟨rfl, hb8⟩
        have Hb8 := hid hb8
        clear hb8
        go_wp2_with fail
        go_meet
        exact Hb8.out
  case rest =>
  obtain ⟨w8, rfl⟩ : ∃ w8 : World, w8 = wc := ⟨_, rfl⟩
  have Hb8 := hid (Below.step Hb7.out hcut hz7)
  have hz8 := Hb8.out.size
  have HO4 := hid (HO3.out w8 (Below.step Hb23.out (Below.step Hb37.out hcut Hb37.out.size) hz23))
  clear hcut HO3 HOq Hqf Hbb Hev Htx
  go_wp2_with fail
  refine HO4.out.mono ?_
  clear HO4
  rintro e w9 ⟨x, rfl, hxx, ⟨hxc, -⟩, hxA, hb9⟩
  have Hb9 := hid (Below.step Hb8.out hb9 hz8)
  have hz9 := Hb9.out.size
  by_cases hen : en = 0
  case neg =>
    rw [errV_ne hen]
    clear hxx hxA hb9 hen
    go_wp2_with fail
    go_ret
    exact ⟨rfl, Hb9.out⟩
  case pos =>
  subst hen
  rw [if_pos rfl] at hxx
  obtain ⟨x1, x2, x3, x4, x5⟩ := Hq3.out rfl x.xs hxx
  rw [errV_zero]
  have HX9 := hid (fun W (hW : Below w9.heap.size w9 W) => hxA.stays0 hW)
  obtain rfl : many = (x.xs.length : Int) := x1.symm
  have hm1 : ¬ (x.xs.length : Int) < 1 := by omega
  have hx0 : 0 < x.xs.length := by omega
  obtain ⟨b2, off2, hA2, hg2, hc2⟩ := hxA.row hx0
  have c0 := hc2 0 hx0
  rw [x3, Nat.add_zero] at c0
  have Hnd := hid x4
  have Hin := hid x5
  have hxl := hxA.len
  unfold maxLen at hxl
  have HA2 := hid hA2
  rw [hA2]
  clear hxx hxA hb9 hc2 hA2 x3 x4 x5 Hq3 x1
  have hx0' : (0 : Int) < (x.xs.length : Int) := by omega
  go_wp2_with fail
  go_loopw [22] (fun i wr => ∃ k : Nat, k ≤ x.xs.length ∧ i = .int .i64 k ∧ Below w9.heap.size w9 wr) (fun i _ => x.xs.length - (intOf i).toNat)
  case atStart => exact ⟨0, Nat.zero_le _, rfl, Below.refl _ _⟩
  case round =>
    obtain ⟨k, hk, rfl, hbr⟩ := hrel
    obtain ⟨wj, rfl⟩ : ∃ wj : World, wj = wr := ⟨_, rfl⟩
    have Hbr := hid hbr
    by_cases hlt : k < x.xs.length
    · obtain ⟨b3, off3, hA3, hg3, hc3⟩ := (HX9.out wj hbr).row hx0
      rw [HA2.out] at hA3
      cases hA3
      have cx := hc3 k hlt
      have hnt := nodup_take Hnd.out hlt
      have hmm := Hin.out _ (getD_memD 0 hlt)
      have HI1 := hid (fun W (hW : Below w9.heap.size w9 W) => in_take x k hk (x.xs.getD k 0) W (HX9.out W hW))
      have HI2 := hid (fun W (hW : Below w9.heap.size w9 W) => in_any s (x.xs.getD k 0) W (HS.out W (Below.step Hb9.out hW hz9)))
      rw [hnt, HA2.out] at HI1
      rw [hmm] at HI2
      generalize x.xs.getD k 0 = n at *
      have hkr : (k : Int) ≤ (x.xs.length : Int) := by omega
      have hkr' : (k : Int) < (x.xs.length : Int) := by omega
      have hkc : (k : Int) ≤ (x.c : Int) := by omega
      have hkc' : k ≤ x.c := by omega
      clear hc3 hnt hmm hbr c0
      go_wp2_with fail
      go_quiet ((go_at_call 7; exact Calls.quiet_of_same (HI1.out (World.drewN wj _) (Below.manyDrew Hbr.out _))))
      go_wp2_with fail
      refine (HI2.out _ (Below.manyDrew Hbr.out _)).mono ?_
      rintro e wq ⟨rfl, hwq⟩
      obtain rfl := hwq
      go_wp2_with fail
      go_roundw
      case rel => exact ⟨k + 1, by omega, by go_num, by exact Below.manyDrew Hbr.out _⟩
      case measure => simp [intOf]; omega
    · clear hbr c0
      go_wp2_with fail
      go_ret
      exact ⟨rfl, Below.step Hb9.out Hbr.out hz9⟩

set_option maxRecDepth 100000 in
theorem trodAll_five {H : Type} {enc : TypeId × Value → H} {P : Program} {w : World} {base : Nat} {sp : Nat → Bool} {held : Bool} {t t' t'' t3 t4 : TypeId} {args : Array Value} {ds : List (DataW H)} {ps : List MemPlace} (h : DataW.TrodAll enc P w base sp held [t, t', t'', t3, t4] args.toList ds ps) :
    ∃ v v' v'' v3 v4 d d' d'' d3 d4 p p' p'' p3 p4, args = #[v, v', v'', v3, v4] ∧ ds = [d, d', d'', d3, d4] ∧ ps = p ++ (p' ++ (p'' ++ (p3 ++ (p4 ++ [])))) ∧ DataW.Trod enc P w base sp held t v d p ∧ DataW.Trod enc P w base sp held t' v' d' p' ∧ DataW.Trod enc P w base sp held t'' v'' d'' p'' ∧ DataW.Trod enc P w base sp held t3 v3 d3 p3 ∧ DataW.Trod enc P w base sp held t4 v4 d4 p4 := by
  obtain ⟨v, vs, d, ds', p, q, e1, rfl, rfl, h1, h⟩ := trodAll_cons h
  obtain ⟨v', vs', d', ds'', p', q', rfl, rfl, rfl, h2, h⟩ := trodAll_cons h
  obtain ⟨v'', vs'', d'', ds3, p'', q'', rfl, rfl, rfl, h3, h⟩ := trodAll_cons h
  obtain ⟨v3, vs3, d3, ds4, p3, q3, rfl, rfl, rfl, h4, h⟩ := trodAll_cons h
  obtain ⟨v4, vs4, d4, ds5, p4, q4, rfl, rfl, rfl, h5, h⟩ := trodAll_cons h
  obtain ⟨rfl, rfl, rfl⟩ := trodAll_nil h
  refine ⟨v, v', v'', v3, v4, d, d', d'', d3, d4, p, p', p'', p3, p4, ?_, rfl, rfl, h1, h2, h3, h4, h5⟩
  exact Array.toList_inj.1 (by simpa using e1)
set_option maxRecDepth 100000 in
theorem ringFew_walk : LawWalk Tryd.prog 3 Tryd.f3 Tb := by
  intro W base args H enc ds p hval hA hgl
  rw [Tryd.params3] at hA hval
  obtain ⟨v0, v1, v2, v3, v4, d0, d1, d2, d3, d4, p0, p1, p2, p3, p4, rfl, rfl, rfl, h0, h1, h2, h3, h4⟩ := trodAll_five hA
  obtain ⟨s, rfl, hs⟩ := arg_slice Tryd.underlying22 (Codec.int Tryd.underlying3) (pos_of_eq Tryd.cellsInt (by decide)) (hval 0 22 v0 rfl rfl) h0
  obtain ⟨i, rfl, _⟩ := arg_int Tryd.underlying3 (hval 1 3 v1 rfl rfl) h1
  obtain ⟨j, rfl, _⟩ := arg_int Tryd.underlying3 (hval 2 3 v2 rfl rfl) h2
  obtain ⟨k, rfl, _⟩ := arg_int Tryd.underlying3 (hval 3 3 v3 rfl rfl) h3
  obtain ⟨m, rfl, _⟩ := arg_int Tryd.underlying3 (hval 4 3 v4 rfl rfl) h4
  exact ringFew_any s i j k m W (intsAt_of hs) ⟨hs.2.2.1, hs.2.2.2⟩ hgl

set_option maxRecDepth 100000 in
theorem ringFew_lifted (os : Os) (started : os.Started) (H : Type) (enc : TypeId × Value → H) :
    ReturnsInHanded {} Tryd.checked os 3 .any (fun w args => (Rows.ringFewSpec.pre enc Tryd.checked.prog Tryd.f3 [] false w args ∧ laidMetH Tryd.prog laid3 w) ∧ sizedMet enc Tryd.checked.prog Tryd.f3 (OpenSpec.ofChange Rows.ringFewSpec) false w args) (Rows.ringFewSpec.post enc Tryd.checked.prog Tryd.f3 false true false false) :=
  laid_lifted (C := Tryd.checked) laid3 (fun _ h => tb_of_laid3 h) [] Tryd.own started (by kernel_rfl) Tryd.func3 Tryd.laidOut (by kernel_rfl) rfl Tryd.underlying4 rfl (fun ds h => by match ds, h with | [_, _, _, _, _], _ => rfl)
    (ChangeSpec.witness_shaped (enc := enc) (C := Tryd.checked) (os := os) (X := fun w _ => laidMetH Tryd.prog laid3 w) false (World.doorLaid Tryd.prog 4000 os) #[.slice none 0 0, .int .i64 0, .int .i64 0, .int .i64 0, .int .i64 0] 8 rfl (World.shaped_of_RefB (by kernel_rfl) (by kernel_rfl)) (by kernel_rfl) (by kernel_rfl) (by kernel_rfl) (door_met3 os _)) ringFew_walk

theorem ringFew_row : Rows.RingFewSaid :=
  OpenClaim.holds_of_wide 3 Tryd.f3 rfl rfl rfl rfl rfl rfl rfl ⟨rfl, rfl, rfl, rfl, rfl⟩ rfl rfl rfl rfl rfl (by kernel_rfl) Tryd.func3 (by kernel_rfl)
    (of_decide_eq_true (by kernel_rfl)) (by unfold Func.isWrapper; rw [if_neg (of_decide_eq_false (by kernel_rfl))]; exact ⟨rfl, rfl⟩)
    (fun os started H enc _ => ringFew_lifted os started H enc)

theorem ringFew_holds : Rows.RingFewCardSaid :=
  Claim7.holds_tied_plain_at .later [] [.data, .data, .data] true _ true
    ringFew_row (fun _ h => by cases h) (by kernel_rfl) (fun _ h => by cases h) ringFew_row_tie rfl ⟨rfl, rfl⟩ (by kernel_rfl) rfl
    (fun f fn hf hfn => by
      obtain rfl : f = 3 := Option.some.inj ((show Tryd.prog.funcNamed "beaconmere/merelaw1.RingFew" = some 3 by kernel_rfl).symm.trans hf) |>.symm
      obtain rfl : fn = Tryd.f3 := (Option.some.inj (Tryd.func3.symm.trans hfn)).symm
      refine ⟨by kernel_rfl, fun j t ht => ?_⟩
      have hall : Tryd.f3.params.toList.all (fun t => !Tryd.prog.wantsStandIn t) = true := by kernel_rfl
      have hm : t ∈ Tryd.f3.params.toList := by
        obtain ⟨hj, hje⟩ := Array.getElem?_eq_some_iff.1 ht
        rw [← hje]
        exact Array.mem_toList_iff.2 (Array.getElem_mem hj)
      have := List.all_eq_true.1 hall t hm
      exact (show Tryd.prog.wantsStandIn t = false by simpa using this))
    (by kernel_rfl)

end Go.Proofs.YtepddjfbkjplfaaDoor
