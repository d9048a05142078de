/-
  CONTRACT of rumor.Pick. CONDITIONS: none.
-/
import Derived.Test.YtgamocljdbffpaaRumD
import Derived.Test.YtgamocljdbffpaaKeep
namespace Go.Proofs.Ytgamocljdbffpaa
open Go.RowKit
open Go.ChangeShapes Go.WideShapes Go.ChangeAt

def UPRes (w : World) (r : (List M × List U) × Int) (e : Ending) (w' : World) : Prop :=
  ∃ v u, e = .returned (.tuple #[v, u, errV r.2]) ∧ Ow M.cells 3 w.heap.size 23 w' v r.1.1 ∧ Ow U.cells 4 w.heap.size 39 w' u r.1.2 ∧ Below w.heap.size w w'

set_option maxHeartbeats 16000000 in
set_option maxRecDepth 100000 in
theorem upick_ok (s : SlV U) (many limit : Int) (w : World) (hs : UsAt w s) (hc : chkU s.xs = 0) (hm0 : 0 ≤ many) (hm1 : many ≤ 6) (hl0 : 1 ≤ limit) (hl1 : limit ≤ 60) :
    Calls Try.prog 6 #[.slice s.A s.xs.length s.c, .int .i64 many, .int .i64 limit] w (UPRes w (pickU s.xs many.toNat limit, 0)) := by
  have HC := hid (fun W (hW : Below w.heap.size w W) => ucheck_any s W (hs.stays hW))
  rw [hc, errV_zero] at HC
  have hA := uasc_of hc
  have hn : s.xs.length ≤ 6 := by
    have := (vval_facts (uval_iff.1 hc).1).2.2
    rw [um_length] at this
    exact this
  have Hs := hid (fun W (hW : Below w.heap.size w W) => hs.stays hW)
  have Hgood := hid hs.each
  have HoL := hid (ordU_length hA)
  have Hogood := hid (show ∀ y ∈ ordU s.xs, y.good from fun y hy => hs.each y ((ordU_perm hA).mem_iff.1 hy))
  have Hok := hid (uval_iff.1 hc).2
  clear hs hc hA
  obtain ⟨k, hk⟩ : ∃ k : Nat, k = many.toNat := ⟨_, rfl⟩
  obtain rfl : many = (k : Int) := by omega
  rw [← hk]
  clear hk
  obtain ⟨kk, hkk⟩ : ∃ kk, kk = min k s.xs.length := ⟨_, rfl⟩
  have hkm : kk ≤ s.xs.length := by omega
  have Hkk := hid hkk
  clear hkk
  go_enter Try.func6, Try.ntmps6
  go_wp2_with fail
  refine (HC.out _ (Below.refl _ _)).mono ?_
  rintro e w1 ⟨rfl, hb1⟩
  have Hb1 := hid hb1
  have hz1 := hb1.size
  clear hb1
  go_wp2_with fail
  refine (uclone_any s w1 (Hs.out _ Hb1.out) (by omega)).mono ?_
  rintro e w2 ⟨v, rfl, hOw2, hb2⟩
  have Hb2 := hid (Below.step Hb1.out hb2 hz1)
  have HOw2 := hid hOw2
  have hz12 := hb2.size
  clear hOw2 hb2
  go_wp2_with fail
  refine (ustable_any w1.heap.size v s.xs w2 HOw2.out hn).mono ?_
  rintro e w3 ⟨rfl, hO3, hF3⟩
  have Hb3 := hid (show Below w.heap.size w w3 from Hb2.out.trans (hF3.below0 (by omega) (fun i hi => Nat.le_trans hz1 (HOw2.out.ge i hi))))
  have hz3 := hF3.size
  obtain ⟨A, c, hv, hlc, hcm, -⟩ := hO3.form
  subst hv
  rw [HoL.out] at hlc ⊢
  have HO3 := hid (show Ow U.cells 4 w1.heap.size 39 w3 (.slice A kk c) ((ordU s.xs).take kk) from by
    have := hO3.take (k := kk) (by rw [HoL.out]; exact hkm)
    exact this)
  have Htl := hid (show ((ordU s.xs).take kk).length = kk by rw [List.length_take, HoL.out]; omega)
  clear hF3 hO3
  unfold maxLen at hcm
  go_upto_region 9 with fail
  rw [show (min (k : Int) (s.xs.length : Int)).toNat = kk by rw [Hkk.out]; omega]
  obtain ⟨r, hrv, hrx, hrA, -, -⟩ := UsAt.of_ow HO3.out (fun y hy => Hogood.out y (List.mem_of_mem_take hy))
  have hsel : ∀ u, anyU r.xs u = selU s.xs k u := fun u => by
    unfold anyU selU
    rw [hrx, Hkk.out, ← HoL.out, List.take_eq_take_min (i := k), Nat.min_comm]
  have Hsel := hid hsel
  have hrl : r.xs.length ≤ 6 := by rw [hrx, Htl.out]; omega
  have hrb : 0 < r.xs.length → ∀ b off, r.A = some ⟨b, off, none⟩ → b < w3.heap.size := fun h0 b off hA => by
    obtain ⟨b', off', h1, h2, _⟩ := hrA.row h0
    rw [hA] at h1
    injection h1 with h1
    injection h1 with h1 _
    omega
  have Hrb := hid hrb
  rw [hrv]
  have HrA := hid hrA
  have Hm := hid (show (0 : Int) ≤ k ∧ (k : Int) ≤ 6 from ⟨hm0, hm1⟩)
  have Hl := hid (show 1 ≤ limit ∧ limit ≤ 60 from ⟨hl0, hl1⟩)
  clear hrv hrx hrA hsel hrb hm0 hm1 hl0 hl1 hlc hcm hkm Hkk HO3 Htl HOw2 Hb2 Hb1 HC
  generalize hTo : toldU s.xs k = To at *
  generalize hLe : leftU s.xs k limit = Le at *
  have HTo := hid hTo
  have HLe := hid hLe
  have HP := hid (show pickU s.xs k limit = (s.xs.flatMap To, s.xs.flatMap Le) by rw [pickU, hTo, hLe])
  clear hTo hLe
  go_wp2_with fail
  go_loopw [11, 12, 47] (fun v u i wr => ∃ j : Nat, j ≤ s.xs.length ∧ i = .int .i64 j ∧ Ow M.cells 3 w3.heap.size 23 wr v ((s.xs.take j).flatMap To) ∧ Ow U.cells 4 w3.heap.size 39 wr u ((s.xs.take j).flatMap Le) ∧ UsAt wr r ∧ Below w.heap.size w wr ∧ w3.heap.size ≤ wr.heap.size) (fun _ _ i _ => s.xs.length - (intOf i).toNat)
  case atStart => exact ⟨0, Nat.zero_le _, rfl, Ow.nil _ _ _ _ _, Ow.nil _ _ _ _ _, HrA.out, Hb3.out, Nat.le_refl _⟩
  case round =>
    obtain ⟨j, hj, rfl, hOv, hOu, hrr, hbr, hzr⟩ := hrel
    have HOv := hid hOv
    have HOu := hid hOu
    have Hrr := hid hrr
    have Hbr := hid hbr
    have hzr0 := hbr.size
    clear hOv hOu hrr
    by_cases hlt : j < s.xs.length
    · obtain ⟨g, off, hA, hgl, hcells⟩ := (Hs.out wr hbr).row (by omega)
      obtain ⟨k0, k1, k2, k3⟩ := hcells j hlt
      have htk := take_snocD U.zero hlt
      have ht1 : (s.xs.take (j + 1)).flatMap To = (s.xs.take j).flatMap To ++ To (s.xs.getD j U.zero) := by rw [htk, List.flatMap_append, List.flatMap_singleton]
      have ht2 : (s.xs.take (j + 1)).flatMap Le = (s.xs.take j).flatMap Le ++ Le (s.xs.getD j U.zero) := by rw [htk, List.flatMap_append, List.flatMap_singleton]
      have hlT : ((s.xs.take j).flatMap To).length ≤ 6 := by
        have := flat_le To (fun a => by rw [← HTo.out]; unfold toldU; split <;> simp) (s.xs.take j)
        rw [List.length_take] at this; omega
      have hlL : ((s.xs.take j).flatMap Le).length ≤ 6 := by
        have := flat_le Le (fun a => by rw [← HLe.out]; exact leftU_len _ _ _ _) (s.xs.take j)
        rw [List.length_take] at this; omega
      have hok := okU_true.1 (Hok.out _ (getD_memD U.zero hlt))
      have hS := Hsel.out (s.xs.getD j U.zero)
      have hT1 : To (s.xs.getD j U.zero) = if selU s.xs k (s.xs.getD j U.zero) = true then [(s.xs.getD j U.zero).mem] else [] := by rw [← HTo.out]; rfl
      have hL1 : Le (s.xs.getD j U.zero) = if selU s.xs k (s.xs.getD j U.zero) = true then (if (s.xs.getD j U.zero).told + 1 < limit then [⟨(s.xs.getD j U.zero).node, (s.xs.getD j U.zero).life, (s.xs.getD j U.zero).state, (s.xs.getD j U.zero).told + 1⟩] else []) else [s.xs.getD j U.zero] := by rw [← HLe.out]; rfl
      generalize selU s.xs k (s.xs.getD j U.zero) = sb at *
      generalize s.xs.getD j U.zero = x at *
      generalize To x = tx at *
      generalize Le x = lx at *
      generalize (s.xs.take j).flatMap To = LT at *
      generalize (s.xs.take j).flatMap Le = LL at *
      obtain ⟨x0, x1, x2, x3⟩ := x
      simp only at k0 k1 k2 k3
      have Ht1 := hid ht1
      have Ht2 := hid ht2
      have hx3 : 0 ≤ x3 ∧ x3 ≤ 60 := hok.2
      obtain ⟨hx3a, hx3b⟩ := hx3
      have HCt := hid (fun W (hW : UsAt W r) => ucontains_any r x0 x1 x2 x3 W hW (by omega))
      rw [hS] at HCt
      have HT1 := hid hT1
      have HL1 := hid hL1
      have HA := hid hA
      rw [hA]
      clear hA hcells htk ht1 ht2 hok hS hT1 hL1 hbr
      go_wp2_with fail
      refine (HCt.out _ (Hrr.out.stays ((Below.refl _ _).alloc (Nat.le_refl _) _))).mono ?_
      rintro e w5 ⟨rfl, hb5⟩
      have hX5 := (Blk.new wr 39 #[.int .i64 x0, .int .i64 x1, .int .i64 x2, .int .i64 x3]).belowS hb5
      have hb5' : Below wr.heap.size wr w5 := Below.step ((Below.refl _ _).alloc (Nat.le_refl _) _) hb5 (by simp)
      have hz5 := hX5.lt
      have HX5 := hid hX5
      have Hb5 := hid hb5'
      have HOv5 := hid (HOv.out.belowS hb5')
      have HOu5 := hid (HOu.out.belowS hb5')
      have Hr5 := hid (Hrr.out.stays hb5')
      have d0 : w5.cell? ⟨wr.heap.size, 0, none⟩ = some (.int .i64 x0) := hX5.cell 0
      have d1 : w5.cell? ⟨wr.heap.size, 1, none⟩ = some (.int .i64 x1) := hX5.cell 1
      have d2 : w5.cell? ⟨wr.heap.size, 2, none⟩ = some (.int .i64 x2) := hX5.cell 2
      have d3 : w5.cell? ⟨wr.heap.size, 3, none⟩ = some (.int .i64 x3) := hX5.cell 3
      have hfin : ∀ W, Fr (fun i => w3.heap.size ≤ i) w5 W → UsAt W r ∧ Below w.heap.size w W ∧ w3.heap.size ≤ W.heap.size := fun W hW =>
        ⟨Hr5.out.fr hW (fun h0 b off hA h => by have := Hrb.out h0 b off hA; omega), (Below.step Hbr.out Hb5.out hzr0).trans (hW.below0 (by have := Hb5.out.size; omega) (fun i hi => by have := Hb3.out.size; omega)), by have := hW.size; omega⟩
      have Hfin := hid hfin
      clear hX5 hb5 hb5' hfin k0 k1 k2 k3
      rcases sb with _ | _
      · have hT2 := HT1.out
        have hL2 := HL1.out
        rw [if_neg (by decide)] at hT2 hL2
        subst hT2 hL2
        clear HT1 HL1
        go_wp2_with (at_builtin; refine appU _ w3.heap.size _ LL x0 x1 x2 x3 HOu5.out rfl _ _ rfl rfl rfl ?_ ?_ ?_ ?_)
        any_goals (first | (with_reducible rfl) | omega | exact World.size_alloc _ _ | (show _ ≤ _; rw [World.size_alloc]; omega))
        intro v8 w8 h8 f8 o8
        have hfr := Hfin.out w8 (f8.mono (fun i _ h => HOu5.out.ge i h))
        have hv8 := HOu5.out.keep HOv5.out (by decide) f8
        have H8 := hid (And.intro hv8 (And.intro h8 hfr))
        clear hfr hv8 h8 f8 o8
        go_wp2_with fail
        go_roundw
        case rel => exact ⟨j + 1, by omega, by go_num, by rw [Ht1.out, List.append_nil]; exact H8.out.1, by rw [Ht2.out]; exact H8.out.2.1, H8.out.2.2⟩
        case measure => simp [intOf]; omega
      · have hT2 := HT1.out
        have hL2 := HL1.out
        rw [if_pos rfl] at hT2 hL2
        subst hT2
        have HL2 := hid hL2
        clear HT1 HL1 hL2
        go_wp2_with (at_builtin; refine appM _ w3.heap.size _ LT x0 x1 x2 HOv5.out rfl _ _ rfl rfl rfl ?_ ?_ ?_ ?_)
        any_goals (first | (with_reducible rfl) | omega | exact World.size_alloc _ _ | (show _ ≤ _; rw [World.size_alloc]; omega))
        intro v6 w6 h6 f6 o6
        have hX6 := HX5.out.fr f6 (fun h => by have := (HOv.out.lt h.symm).2; omega)
        have e0 : w6.cell? ⟨wr.heap.size, 0, none⟩ = some (.int .i64 x0) := hX6.cell 0
        have e1 : w6.cell? ⟨wr.heap.size, 1, none⟩ = some (.int .i64 x1) := hX6.cell 1
        have e2 : w6.cell? ⟨wr.heap.size, 2, none⟩ = some (.int .i64 x2) := hX6.cell 2
        have e3 : w6.cell? ⟨wr.heap.size, 3, none⟩ = some (.int .i64 x3) := hX6.cell 3
        have z3 : w6.frozen? ⟨wr.heap.size, 3, none⟩ = false := hX6.frozen 3
        have hu6 := HOv5.out.keep HOu5.out (by decide) f6
        have hfr6 : Fr (fun i => w3.heap.size ≤ i) w5 w6 := f6.mono (fun i _ h => HOv5.out.ge i h)
        have hF7 : ∀ u, Fr (fun i => i = wr.heap.size) w6 (w6.setCell ⟨wr.heap.size, 3, none⟩ u) := fun u => (Fr.refl (fun i => i = wr.heap.size) _).setCell (p := ⟨wr.heap.size, 3, none⟩) (.inl rfl) _
        have hfr7 : ∀ u, Fr (fun i => w3.heap.size ≤ i) w5 (w6.setCell ⟨wr.heap.size, 3, none⟩ u) := fun u => hfr6.step ((hF7 u).mono (fun i _ h => by subst h; omega))
        have hu7 : ∀ u, Ow U.cells 4 w3.heap.size 39 (w6.setCell ⟨wr.heap.size, 3, none⟩ u) _ LL := fun u => hu6.fr (hF7 u) (fun g hg h => by have := (HOu.out.lt hg).2; omega)
        have hv7 : ∀ u, Ow M.cells 3 w3.heap.size 23 (w6.setCell ⟨wr.heap.size, 3, none⟩ u) v6 (LT ++ [⟨x0, x1, x2⟩]) := fun u => h6.fr (hF7 u) (fun g hg h => by
          obtain ⟨c1, t1⟩ := h6.typ hg
          subst h
          exact absurd (t1.eq_ hX6).2 (by decide))
        have Hu7 := hid hu7
        have Hv7 := hid hv7
        have Hfr7 := hid hfr7
        have hz7 : w3.heap.size ≤ w6.heap.size := by have := hfr6.size; omega
        clear d0 d1 d2 d3 h6 f6 o6 hX6 hu6 hfr6 hF7 hfr7 hu7 hv7
        by_cases hlim : x3 + 1 < limit
        · have hL3 := HL2.out
          rw [if_pos hlim] at hL3
          have HL3 := hid hL3
          clear hL3 HL2
          go_wp2_with (at_builtin; refine appU _ w3.heap.size _ LL x0 x1 x2 (x3 + 1) (Hu7.out _) rfl _ _ rfl rfl rfl ?_ ?_ ?_ ?_)
          any_goals (first | (with_reducible rfl) | omega | exact World.size_alloc _ _ | (show _ ≤ _; rw [World.size_alloc]; omega) | (show _ ≤ _; rw [World.size_setCell]; omega) | exact World.size_setCell _ _ _)
          intro v8 w8 h8 f8 o8
          have hfr := Hfin.out w8 ((Hfr7.out (.int .i64 (x3 + 1))).step (f8.mono (fun i _ h => (Hu7.out (.int .i64 (x3 + 1))).ge i h)))
          have hv8 := (Hu7.out _).keep (Hv7.out _) (by decide) f8
          have H8 := hid (And.intro hv8 (And.intro h8 hfr))
          clear hfr hv8 h8 f8 o8
          go_wp2_with fail
          go_roundw
          case rel => exact ⟨j + 1, by omega, by go_num, by rw [Ht1.out]; exact H8.out.1, by rw [Ht2.out, HL3.out]; exact H8.out.2.1, H8.out.2.2⟩
          case measure => simp [intOf]; omega
        · have hL3 := HL2.out
          rw [if_neg hlim] at hL3
          have HL3 := hid hL3
          clear hL3 HL2
          go_wp2_with fail
          go_roundw
          case rel => exact ⟨j + 1, by omega, by go_num, by rw [Ht1.out]; exact Hv7.out _, by rw [Ht2.out, HL3.out, List.append_nil]; exact Hu7.out _, Hfin.out _ (Hfr7.out _)⟩
          case measure => simp [intOf]; omega
    · obtain rfl : j = s.xs.length := by omega
      rw [List.take_length] at HOv HOu
      go_wp2_with fail
      go_ret3
      refine ⟨_, _, (by rw [errV_zero]; rfl), ?_, ?_, Hbr.out⟩
      · rw [HP.out]; exact HOv.out.mono (by have := Hb3.out.size; omega)
      · rw [HP.out]; exact HOu.out.mono (by have := Hb3.out.size; omega)
set_option maxHeartbeats 4000000 in
theorem upick_any (s : SlV U) (many limit : Int) (w : World) (hs : UsAt w s) :
    Calls Try.prog 6 #[.slice s.A s.xs.length s.c, .int .i64 many, .int .i64 limit] w (UPRes w (pickUR s.xs many limit)) := by
  have HC := hid (fun W (hW : Below w.heap.size w W) => ucheck_any s W (hs.stays hW))
  by_cases hc : chkU s.xs = 0
  · rw [pickUR, if_pos hc]
    by_cases hr : 0 ≤ many ∧ many ≤ 6 ∧ 1 ≤ limit ∧ limit ≤ 60
    · rw [if_pos hr]
      exact upick_ok s many limit w hs hc hr.1 hr.2.1 hr.2.2.1 hr.2.2.2
    · rw [if_neg hr]
      rw [hc, errV_zero] at HC
      have hcase : many < 0 ∨ (0 ≤ many ∧ 6 < many) ∨ (0 ≤ many ∧ many ≤ 6 ∧ limit < 1) ∨ (0 ≤ many ∧ many ≤ 6 ∧ 1 ≤ limit ∧ 60 < limit) := by omega
      clear hc hs hr
      rcases hcase with h1 | ⟨h1, h2⟩ | ⟨h1, h2, h3⟩ | ⟨h1, h2, h3, h4⟩
      all_goals
        go_enter Try.func6, Try.ntmps6
        go_wp2_with fail
        refine (HC.out _ (Below.refl _ _)).mono ?_
        rintro e w1 ⟨rfl, hb1⟩
        have Hb1 := hid hb1
        clear hb1
        go_wp2_with fail
        go_ret3
        exact ⟨_, _, (by rw [errV_ne (show (1 : Int) ≠ 0 by decide)]; rfl), Ow.nil _ _ _ _ _, Ow.nil _ _ _ _ _, Hb1.out⟩
  · rw [pickUR, if_neg hc]
    have Hen := hid (errV_ne hc)
    generalize chkU s.xs = en at *
    clear hc hs
    go_enter Try.func6, Try.ntmps6
    go_wp2_with fail
    refine (HC.out _ (Below.refl _ _)).mono ?_
    rw [Hen.out]
    rintro e w1 ⟨rfl, hb1⟩
    have Hb1 := hid hb1
    clear hb1
    go_wp2_with fail
    refine bodyPost_ret (v := .tuple #[.slice none 0 0, .slice none 0 0, .iface 42 (.int .i64 en)]) ?_ rfl ⟨_, _, by rw [Hen.out], Ow.nil _ _ _ _ _, Ow.nil _ _ _ _ _, Hb1.out⟩
    simp [results, Try.results6, go_sem]
end Go.Proofs.Ytgamocljdbffpaa
