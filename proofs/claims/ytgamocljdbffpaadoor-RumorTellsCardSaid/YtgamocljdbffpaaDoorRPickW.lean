/-
  CONTRACT of the reference mereref2.Pick: the walk. CONDITIONS: none.
-/
import Derived.Test.YtgamocljdbffpaaDoorRPick
import Derived.Deep.QuietTactic
import Derived.BigQuiet
namespace Go.Proofs.YtgamocljdbffpaaDoor
open Go.RowKit
open Go.ChangeShapes Go.WideShapes Go.ChangeAt

def RPRes (w : World) (r : List M × List U) (e : Ending) (w' : World) : Prop :=
  ∃ v u, e = .returned (.tuple #[v, u]) ∧ Ow M.cells 3 w.heap.size 52 w' v r.1 ∧ Ow U.cells 4 w.heap.size 98 w' u r.2 ∧ Below w.heap.size w w'
theorem gotCell {base g n : Nat} {w : World} {G : List Bool} (h : Ow bcell1 1 base 4 w (.slice (some ⟨g, 0, none⟩) n n) G) {j : Nat} (hj : j < G.length) : w.cell? ⟨g, j, none⟩ = some (.bool (G.getD j false)) ∧ w.frozen? ⟨g, j, none⟩ = false := by
  obtain ⟨g', off, cap, hv, _, _, _, _, _, hc, hf⟩ := h.get (by omega)
  injection hv with hv1 _ _
  injection hv1 with hv1
  injection hv1 with h1 h2
  subst h1 h2
  have := hc j hj 0 (by decide)
  rw [Nat.mul_one, Nat.zero_add, Nat.add_zero] at this
  refine ⟨this.trans ?_, hf _⟩
  rw [getD_get _ hj]
  rfl
theorem gotSet {base g n : Nat} {w : World} {G : List Bool} (h : Ow bcell1 1 base 4 w (.slice (some ⟨g, 0, none⟩) n n) G) {j : Nat} (hj : j < G.length) : Ow bcell1 1 base 4 (w.setCell ⟨g, j, none⟩ (.bool true)) (.slice (some ⟨g, 0, none⟩) n n) (G.set j true) := by
  have := Ow.set (cells := bcell1) (n := 1) (fun _ => rfl) h hj true
  rw [Nat.mul_one, Nat.zero_add] at this
  exact this

set_option maxHeartbeats 16000000 in
set_option maxRecDepth 100000 in
theorem rpick_any (s : SlV U) (k : Nat) (limit : Int) (w : World) (hs : UsAt w s) (hc : chkU s.xs = 0) (hk6 : k ≤ 6) (hl1 : limit ≤ 60) :
    Calls Tryd.prog 31 #[.slice s.A s.xs.length s.c, .int .i64 k, .int .i64 limit] w (RPRes w (pickU s.xs k limit)) := by
  have hA := uasc_of hc
  have hn : s.xs.length ≤ 6 := by
    have := (vval_facts (uval_iff.1 hc).1).2.2
    rw [um_length] at this
    exact this
  have Hs := hid (fun W (hW : Below w.heap.size w W) => hs.stays hW)
  have HA := hid hA
  have Hok := hid (uval_iff.1 hc).2
  obtain ⟨i0, hi0, hz0, hzs, hzb⟩ := info_parts (show (Tryd.prog.info? 4).map (fun i => (i.zero, i.size, i.bytes)) = some (some (.bool false), 1, 1) by kernel_rfl)
  have hmk : ∀ W : World, (Instr.makeSlice 105 (.int .i64 (s.xs.length : Int)) (.int .i64 (s.xs.length : Int))).run Tryd.prog W = .ok (.slice (some ⟨W.heap.size, 0, none⟩) s.xs.length s.xs.length) (W.alloc (.cells (madeCells #[.bool false] s.xs.length) 4)) := fun W => by
    have := run_make (P := Tryd.prog) W 105 4 i0 (.bool false) Tryd.underlying105 hi0 hz0 .i64 .i64 (s.xs.length : Int) (s.xs.length : Int) (by omega) (by omega) (by rw [hzb]; omega) (by omega)
    rw [Int.toNat_natCast, hzs, Nat.mul_one] at this
    exact this
  have hO0 := hid (made_own w s.xs.length (by omega))
  clear hs hc hA hi0 hz0 hzs hzb
  go_enter Tryd.func31, Tryd.ntmps31
  go_wp2_with fail
  clear hmk
  go_loopw [9] (fun q wr => ∃ (m : Nat) (G : List Bool), m ≤ k ∧ q = .int .i64 m ∧ GotAt s.xs m G ∧ Ow bcell1 1 w.heap.size 4 wr (.slice (some ⟨w.heap.size, 0, none⟩) s.xs.length s.xs.length) G ∧ Below w.heap.size w wr) (fun q _ => k - (intOf q).toNat)
  case atStart => exact ⟨0, _, Nat.zero_le _, rfl, got_zero _, hO0.out, (Below.refl _ _).alloc (Nat.le_refl _) _⟩
  case round =>
    obtain ⟨m, G, hm, rfl, hG, hO, hbr⟩ := hrel
    have hGl := hG.1
    have HG := hid hG
    clear hG
    by_cases hmk : m < k
    · go_wp2_with fail
      go_loopw [10, 11] (fun b i wi => ∃ (j : Nat) (bb : Int), j ≤ s.xs.length ∧ b = .int .i64 bb ∧ i = .int .i64 j ∧ BestAt s.xs G j bb ∧ Ow bcell1 1 w.heap.size 4 wi (.slice (some ⟨w.heap.size, 0, none⟩) s.xs.length s.xs.length) G ∧ Below w.heap.size w wi) (fun _ i _ => s.xs.length - (intOf i).toNat)
      case atStart => exact ⟨0, -1, Nat.zero_le _, rfl, rfl, .inl ⟨rfl, fun i hi => by omega⟩, hO, hbr⟩
      case round =>
        obtain ⟨j, bb, hj, rfl, rfl, hB, hOi, hbi⟩ := hrel
        have HB := hid hB
        have HOi := hid hOi
        have Hbi := hid hbi
        clear hO hbr hB
        by_cases hlt : j < s.xs.length
        · obtain ⟨g, off, hA, hgl, hcells⟩ := (Hs.out _ hbi).row (by omega)
          obtain ⟨-, -, -, k3⟩ := hcells j hlt
          have hgc := (gotCell hOi (show j < G.length by omega)).1
          have hj0 : (0 : Int) ≤ (j : Int) := by omega
          have hj1 : (j : Int) < (s.xs.length : Int) := by omega
          rw [hA]
          have HAd := hid hA
          clear hA hOi hbi
          rcases hgj : G.getD j false with _ | _
          · rw [hgj] at hgc
            have Hgj := hid hgj
            clear hgj
            rcases (show bb = -1 ∨ ∃ kb : Nat, bb = kb ∧ kb < s.xs.length by
              rcases HB.out with ⟨h, _⟩ | ⟨kb, h, h1, _⟩
              · exact .inl h
              · exact .inr ⟨kb, h, by omega⟩) with rfl | ⟨kb, rfl, hkb⟩
            · clear hcells
              go_wp2_with fail
              go_quiet (fail)
              go_wp2_with fail
              go_roundw
              case rel => exact ⟨j + 1, j, by omega, rfl, by go_num, best_none HB.out Hgj.out, HOi.out.drewN _, Below.manyDrew Hbi.out _⟩
              case measure => simp [intOf]; omega
            · obtain ⟨-, -, -, q3⟩ := hcells kb hkb
              have hk0 : (0 : Int) ≤ (kb : Int) := by omega
              have hk1 : (kb : Int) < (s.xs.length : Int) := by omega
              have hb0 : decide ((kb : Int) < 0) = false := decide_eq_false (by omega)
              clear hcells
              have HBl := hid (fun h => best_less HB.out Hgj.out h)
              have HBs := hid (fun h => best_stay HA.out hlt HB.out h)
              generalize (s.xs.getD j U.zero).told = tj at *
              generalize (s.xs.getD kb U.zero).told = tk at *
              by_cases hle : tj < tk
              · go_wp2_with fail
                go_quiet (fail)
                go_wp2_with fail
                go_roundw
                case rel => exact ⟨j + 1, j, by omega, rfl, by go_num, HBl.out hle, HOi.out.drewN _, Below.manyDrew Hbi.out _⟩
                case measure => simp [intOf]; omega
              · go_wp2_with fail
                go_quiet (fail)
                go_wp2_with fail
                go_roundw
                case rel => exact ⟨j + 1, kb, by omega, rfl, by go_num, HBs.out hle, HOi.out.drewN _, Below.manyDrew Hbi.out _⟩
                case measure => simp [intOf]; omega
          · rw [hgj] at hgc
            have Hgj := hid hgj
            clear hgj hcells
            go_wp2_with fail
            go_quiet (fail)
            go_wp2_with fail
            go_roundw
            case rel => exact ⟨j + 1, bb, by omega, rfl, by go_num, best_got HB.out Hgj.out, HOi.out.drewN _, Below.manyDrew Hbi.out _⟩
            case measure => simp [intOf]; omega
        · obtain rfl : j = s.xs.length := by omega
          have HS := hid (got_step HA.out HG.out HB.out)
          rcases (show bb = -1 ∨ ∃ kb : Nat, bb = kb by
              rcases HB.out with ⟨h, _⟩ | ⟨kb, h, h1, _⟩
              · exact .inl h
              · exact .inr ⟨kb, h⟩) with rfl | ⟨kb, rfl⟩
          · go_wp2_with fail
            go_roundw
            case rel => exact ⟨m + 1, G, by omega, by go_num, HS.out.1 rfl, HOi.out, Hbi.out⟩
            case measure => simp [intOf]; omega
          · obtain ⟨hkb, hGs⟩ := HS.out.2 kb rfl
            obtain ⟨c1, z1⟩ := gotCell hOi (show kb < G.length by omega)
            have hk0 : (0 : Int) ≤ (kb : Int) := by omega
            have hk1 : (kb : Int) < (s.xs.length : Int) := by omega
            have HGs := hid hGs
            clear hGs hOi hbi
            go_wp2_with fail
            go_roundw
            case rel => exact ⟨m + 1, G.set kb true, by omega, by go_num, HGs.out, gotSet HOi.out (by omega), Hbi.out.setCell (p := ⟨w.heap.size, kb, none⟩) (Nat.le_refl _) _⟩
            case measure => simp [intOf]; omega
    · obtain rfl : m = k := by omega
      generalize hTo : toldU s.xs m = To at *
      generalize hLe : leftU s.xs m limit = Le at *
      have HTo := hid hTo
      have HLe := hid hLe
      have HP := hid (show pickU s.xs m limit = (s.xs.flatMap To, s.xs.flatMap Le) by rw [pickU, hTo, hLe])
      obtain ⟨w3, rfl⟩ : ∃ w3 : World, w3 = wr := ⟨_, rfl⟩
      have HO3 := hid hO
      have Hb3 := hid hbr
      clear hTo hLe hO hbr
      go_wp2_with fail
      go_loopw [12, 13, 14] (fun v u i wr => ∃ j : Nat, j ≤ s.xs.length ∧ i = .int .i64 j ∧ Ow M.cells 3 w3.heap.size 52 wr v ((s.xs.take j).flatMap To) ∧ Ow U.cells 4 w3.heap.size 98 wr u ((s.xs.take j).flatMap Le) ∧ Ow bcell1 1 w.heap.size 4 wr (.slice (some ⟨w.heap.size, 0, none⟩) s.xs.length s.xs.length) G ∧ Below w.heap.size w wr ∧ w3.heap.size ≤ wr.heap.size) (fun _ _ i _ => s.xs.length - (intOf i).toNat)
      case atStart => exact ⟨0, Nat.zero_le _, rfl, Ow.nil _ _ _ _ _, Ow.nil _ _ _ _ _, HO3.out, Hb3.out, Nat.le_refl _⟩
      case round =>
        obtain ⟨j, hj, rfl, hOv, hOu, hOg, hbr, hzr⟩ := hrel
        have HOv := hid hOv
        have HOu := hid hOu
        have HOg := hid hOg
        have Hbr := hid hbr
        have hzr0 := hbr.size
        by_cases hlt : j < s.xs.length
        · obtain ⟨g, off, hA, hgl, hcells⟩ := (Hs.out wr hbr).row (by omega)
          obtain ⟨k0, k1, k2, k3⟩ := hcells j hlt
          have hgc := (gotCell hOg (show j < G.length by omega)).1
          have hg3 : w.heap.size < w3.heap.size := by
            obtain ⟨_, _, _, hv, _, _, _, hg, _⟩ := HO3.out.get (by omega)
            injection hv with hv1 _ _
            injection hv1 with hv1
            injection hv1 with h1 _
            omega
          have hgw : w.heap.size < wr.heap.size := by omega
          have htk := take_snocD U.zero hlt
          have ht1 : (s.xs.take (j + 1)).flatMap To = (s.xs.take j).flatMap To ++ To (s.xs.getD j U.zero) := by rw [htk, List.flatMap_append, List.flatMap_singleton]
          have ht2 : (s.xs.take (j + 1)).flatMap Le = (s.xs.take j).flatMap Le ++ Le (s.xs.getD j U.zero) := by rw [htk, List.flatMap_append, List.flatMap_singleton]
          have hlT : ((s.xs.take j).flatMap To).length ≤ 6 := by
            have := flat_le To (fun a => by rw [← HTo.out]; unfold toldU; split <;> simp) (s.xs.take j)
            rw [List.length_take] at this; omega
          have hlL : ((s.xs.take j).flatMap Le).length ≤ 6 := by
            have := flat_le Le (fun a => by rw [← HLe.out]; exact leftU_len _ _ _ _) (s.xs.take j)
            rw [List.length_take] at this; omega
          have hok := okU_true.1 (Hok.out _ (getD_memD U.zero hlt))
          have hS := HG.out.2 j hlt
          have hT1 : To (s.xs.getD j U.zero) = if selU s.xs m (s.xs.getD j U.zero) = true then [(s.xs.getD j U.zero).mem] else [] := by rw [← HTo.out]; rfl
          have hL1 : Le (s.xs.getD j U.zero) = if selU s.xs m (s.xs.getD j U.zero) = true then (if (s.xs.getD j U.zero).told + 1 < limit then [⟨(s.xs.getD j U.zero).node, (s.xs.getD j U.zero).life, (s.xs.getD j U.zero).state, (s.xs.getD j U.zero).told + 1⟩] else []) else [s.xs.getD j U.zero] := by rw [← HLe.out]; rfl
          rw [hS] at hgc
          generalize selU s.xs m (s.xs.getD j U.zero) = sb at *
          generalize s.xs.getD j U.zero = x at *
          generalize To x = tx at *
          generalize Le x = lx at *
          generalize (s.xs.take j).flatMap To = LT at *
          generalize (s.xs.take j).flatMap Le = LL at *
          obtain ⟨x0, x1, x2, x3⟩ := x
          simp only at k0 k1 k2 k3
          have Ht1 := hid ht1
          have Ht2 := hid ht2
          have hx3 : 0 ≤ x3 ∧ x3 ≤ 60 := hok.2
          obtain ⟨hx3a, hx3b⟩ := hx3
          have HT1 := hid hT1
          have HL1 := hid hL1
          have HAd := hid hA
          have hj0 : (0 : Int) ≤ (j : Int) := by omega
          have hj1 : (j : Int) < (s.xs.length : Int) := by omega
          have hXB : Below wr.heap.size wr (wr.alloc (.cells #[.int .i64 x0, .int .i64 x1, .int .i64 x2, .int .i64 x3] 98)) := (Below.refl _ _).alloc (Nat.le_refl _) _
          have HX5 := hid (Blk.new wr 98 #[.int .i64 x0, .int .i64 x1, .int .i64 x2, .int .i64 x3])
          have HOv5 := hid (hOv.belowS hXB)
          have HOu5 := hid (hOu.belowS hXB)
          have HOg5 := hid (hOg.belowS hXB)
          have Hb5 := hid hXB
          rw [hA]
          clear hA hcells htk ht1 ht2 hok hS hT1 hL1 hOv hOu hOg hbr hXB
          go_upto_region 19 with fail
          obtain ⟨w5, hw5⟩ : ∃ w5 : World, w5 = wr.alloc (.cells #[.int .i64 x0, .int .i64 x1, .int .i64 x2, .int .i64 x3] 98) := ⟨_, rfl⟩
          rw [← hw5] at HX5 HOv5 HOu5 HOg5 Hb5 ⊢
          have hz5 : wr.heap.size < w5.heap.size := by rw [hw5]; simp
          have hgc5 : w5.cell? ⟨w.heap.size, j, none⟩ = some (.bool sb) := (Hb5.out.cell (p := ⟨w.heap.size, j, none⟩) hgw).trans hgc
          have d0 : w5.cell? ⟨wr.heap.size, 0, none⟩ = some (.int .i64 x0) := HX5.out.cell 0
          have d1 : w5.cell? ⟨wr.heap.size, 1, none⟩ = some (.int .i64 x1) := HX5.out.cell 1
          have d2 : w5.cell? ⟨wr.heap.size, 2, none⟩ = some (.int .i64 x2) := HX5.out.cell 2
          have d3 : w5.cell? ⟨wr.heap.size, 3, none⟩ = some (.int .i64 x3) := HX5.out.cell 3
          have z3 : w5.frozen? ⟨wr.heap.size, 3, none⟩ = false := HX5.out.frozen 3
          have hfin : ∀ W, Fr (fun i => w3.heap.size ≤ i) w5 W → Ow bcell1 1 w.heap.size 4 W (.slice (some ⟨w.heap.size, 0, none⟩) s.xs.length s.xs.length) G ∧ Below w.heap.size w W ∧ w3.heap.size ≤ W.heap.size := fun W hW =>
            ⟨HOg5.out.fr hW (fun g hg h => by
              have : foot (.slice (some ⟨w.heap.size, 0, none⟩) s.xs.length s.xs.length) = some w.heap.size := foot_some (by omega)
              rw [this] at hg
              cases hg
              omega), (Below.step Hbr.out Hb5.out hzr0).trans (hW.below0 (by have := Hb5.out.size; omega) (fun i hi => by omega)), by have := hW.size; omega⟩
          have Hfin := hid hfin
          clear hfin k0 k1 k2 k3 hgc hw5
          rcases sb with _ | _
          · have hT2 := HT1.out
            have hL2 := HL1.out
            rw [if_neg (by decide)] at hT2 hL2
            subst hT2 hL2
            clear HT1 HL1
            go_wp2_with (at_builtin; refine appU _ w3.heap.size _ LL x0 x1 x2 x3 HOu5.out rfl _ _ rfl rfl rfl ?_ ?_ ?_ ?_)
            any_goals (first | (with_reducible rfl) | omega | exact World.size_alloc _ _ | (show _ ≤ _; rw [World.size_alloc]; omega))
            intro v8 w8 h8 f8 o8
            have hfr := Hfin.out w8 (f8.mono (fun i _ h => HOu5.out.ge i h))
            have hv8 := HOu5.out.keep HOv5.out (by decide) f8
            have H8 := hid (And.intro hv8 (And.intro h8 hfr))
            clear hfr hv8 h8 f8 o8
            go_wp2_with fail
            go_roundw
            case rel => exact ⟨j + 1, by omega, by go_num, by rw [Ht1.out, List.append_nil]; exact H8.out.1, by rw [Ht2.out]; exact H8.out.2.1, H8.out.2.2⟩
            case measure => simp [intOf]; omega
          · have hT2 := HT1.out
            have hL2 := HL1.out
            rw [if_pos rfl] at hT2 hL2
            subst hT2
            have HL2 := hid hL2
            clear HT1 HL1 hL2
            go_wp2_with (at_builtin; refine appM _ w3.heap.size _ LT x0 x1 x2 HOv5.out rfl _ _ rfl rfl rfl ?_ ?_ ?_ ?_)
            any_goals (first | (with_reducible rfl) | omega | exact World.size_alloc _ _ | (show _ ≤ _; rw [World.size_alloc]; omega))
            intro v6 w6 h6 f6 o6
            have hX6 := HX5.out.fr f6 (fun h => by have := (HOv.out.lt h.symm).2; omega)
            have e0 : w6.cell? ⟨wr.heap.size, 0, none⟩ = some (.int .i64 x0) := hX6.cell 0
            have e1 : w6.cell? ⟨wr.heap.size, 1, none⟩ = some (.int .i64 x1) := hX6.cell 1
            have e2 : w6.cell? ⟨wr.heap.size, 2, none⟩ = some (.int .i64 x2) := hX6.cell 2
            have e3 : w6.cell? ⟨wr.heap.size, 3, none⟩ = some (.int .i64 x3) := hX6.cell 3
            have y3 : w6.frozen? ⟨wr.heap.size, 3, none⟩ = false := hX6.frozen 3
            have hu6 := HOv5.out.keep HOu5.out (by decide) f6
            have hfr6 : Fr (fun i => w3.heap.size ≤ i) w5 w6 := f6.mono (fun i _ h => HOv5.out.ge i h)
            have hF7 : ∀ u, Fr (fun i => i = wr.heap.size) w6 (w6.setCell ⟨wr.heap.size, 3, none⟩ u) := fun u => (Fr.refl (fun i => i = wr.heap.size) _).setCell (p := ⟨wr.heap.size, 3, none⟩) (.inl rfl) _
            have hfr7 : ∀ u, Fr (fun i => w3.heap.size ≤ i) w5 (w6.setCell ⟨wr.heap.size, 3, none⟩ u) := fun u => hfr6.step ((hF7 u).mono (fun i _ h => by subst h; omega))
            have hu7 : ∀ u, Ow U.cells 4 w3.heap.size 98 (w6.setCell ⟨wr.heap.size, 3, none⟩ u) _ LL := fun u => hu6.fr (hF7 u) (fun g hg h => by have := (HOu.out.lt hg).2; omega)
            have hv7 : ∀ u, Ow M.cells 3 w3.heap.size 52 (w6.setCell ⟨wr.heap.size, 3, none⟩ u) v6 (LT ++ [⟨x0, x1, x2⟩]) := fun u => h6.fr (hF7 u) (fun g hg h => by
              obtain ⟨c1, t1⟩ := h6.typ hg
              subst h
              exact absurd (t1.eq_ hX6).2 (by decide))
            have Hu7 := hid hu7
            have Hv7 := hid hv7
            have Hfr7 := hid hfr7
            have hz7 : w3.heap.size ≤ w6.heap.size := by have := hfr6.size; omega
            clear d0 d1 d2 d3 h6 f6 o6 hX6 hu6 hfr6 hF7 hfr7 hu7 hv7 hgc5 z3
            by_cases hlim : x3 + 1 < limit
            · have hL3 := HL2.out
              rw [if_pos hlim] at hL3
              have HL3 := hid hL3
              have hli : ¬ limit ≤ x3 + 1 := by omega
              clear hL3 HL2
              go_wp2_with (at_builtin; refine appU _ w3.heap.size _ LL x0 x1 x2 (x3 + 1) (Hu7.out _) rfl _ _ rfl rfl rfl ?_ ?_ ?_ ?_)
              any_goals (first | (with_reducible rfl) | omega | exact World.size_alloc _ _ | (show _ ≤ _; rw [World.size_alloc]; omega) | (show _ ≤ _; rw [World.size_setCell]; omega) | exact World.size_setCell _ _ _)
              intro v8 w8 h8 f8 o8
              have hfr := Hfin.out w8 ((Hfr7.out (.int .i64 (x3 + 1))).step (f8.mono (fun i _ h => (Hu7.out (.int .i64 (x3 + 1))).ge i h)))
              have hv8 := (Hu7.out _).keep (Hv7.out _) (by decide) f8
              have H8 := hid (And.intro hv8 (And.intro h8 hfr))
              clear hfr hv8 h8 f8 o8
              go_wp2_with fail
              go_roundw
              case rel => exact ⟨j + 1, by omega, by go_num, by rw [Ht1.out]; exact H8.out.1, by rw [Ht2.out, HL3.out]; exact H8.out.2.1, H8.out.2.2⟩
              case measure => simp [intOf]; omega
            · have hL3 := HL2.out
              rw [if_neg hlim] at hL3
              have HL3 := hid hL3
              have hli : limit ≤ x3 + 1 := by omega
              clear hL3 HL2
              go_wp2_with fail
              go_roundw
              case rel => exact ⟨j + 1, by omega, by go_num, by rw [Ht1.out]; exact Hv7.out _, by rw [Ht2.out, HL3.out, List.append_nil]; exact Hu7.out _, Hfin.out _ (Hfr7.out _)⟩
              case measure => simp [intOf]; omega
        · obtain rfl : j = s.xs.length := by omega
          rw [List.take_length] at HOv HOu
          go_wp2_with fail
          go_ret2
          refine ⟨_, _, rfl, ?_, ?_, Hbr.out⟩
          · rw [HP.out]; exact HOv.out.mono (by have := Hb3.out.size; omega)
          · rw [HP.out]; exact HOu.out.mono (by have := Hb3.out.size; omega)
end Go.Proofs.YtgamocljdbffpaaDoor
