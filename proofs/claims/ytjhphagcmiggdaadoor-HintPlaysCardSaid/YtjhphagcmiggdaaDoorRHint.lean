/-
  CONTRACTS of the reference (*mereref2.Hints).Add, Take and of meresame.Hints: the same plain functions as the program's. CONDITIONS: none.
-/
import Derived.Test.YtjhphagcmiggdaaDoorHint4
import Derived.Deep.QuietTactic
namespace Go.Proofs.YtjhphagcmiggdaaDoor
open Go.RowKit
open Go.ChangeShapes Go.WideShapes Go.ChangeAt

theorem rkey2_any (k : Int) (w : World) : Calls Tryd.prog 13 #[.int .i64 k] w fun e w' => e = .returned (.bool (keyB k)) ∧ w = w' := by
  go_enter Tryd.func13, Tryd.ntmps13
  go_wp2
  all_goals
    go_ret
    refine ⟨ret_b ?_, rfl⟩
    first | (simp [keyB, *]; done) | (simp [keyB]; omega) | (rw [Bool.eq_iff_iff]; simp [keyB]; omega)

/-- the reference's hints at b -/
def RHintsO (base : Nat) (w : World) (b : Nat) (v : Value) (l : List H) (lost : Int) : Prop :=
  Blk w b 28 #[v, .int .i64 lost] ∧ Ow H.cells 3 base 32 w v l ∧ foot v ≠ some b ∧ base ≤ b
theorem RHintsO.fr {S : Nat → Prop} {base : Nat} {w w' : World} {h : Nat} {v : Value} {l : List H} {lost : Int} (ho : RHintsO base w h v l lost) (hf : Fr S w w') (h1 : ¬ S h) (h2 : ∀ g, foot v = some g → ¬ S g) : RHintsO base w' h v l lost :=
  ⟨ho.1.fr hf h1, ho.2.1.fr hf h2, ho.2.2⟩
theorem RHintsO.belowS {base : Nat} {w w' : World} {h : Nat} {v : Value} {l : List H} {lost : Int} (ho : RHintsO base w h v l lost) (hb : Below w.heap.size w w') : RHintsO base w' h v l lost :=
  ho.fr (S := fun _ => False) (Fr.ofB hb) (fun h => h) (fun _ _ h => h)

theorem alikeH_parts {x0 x1 x2 y0 y1 y2 : Int} (h : alikeH ⟨x0, x1, x2⟩ ⟨y0, y1, y2⟩ = true) : y0 = x0 ∧ y1 = x1 := by
  simpa [alikeH] using h
theorem filter_snoc1 {q : H → Bool} {l : List H} {y : H} : (l ++ [y]).filter q = if q y = true then l.filter q ++ [y] else l.filter q := by
  rw [List.filter_append]; by_cases h : q y = true <;> simp [h]

set_option maxHeartbeats 4000000 in
set_option maxRecDepth 100000 in
theorem radd_any (x0 x1 x2 : Int) (b base : Nat) (v : Value) (l : List H) (lost : Int) (w : World) (ho : RHintsO base w b v l lost) (hg : ∀ y ∈ l, y.good) (hlen : l.length ≤ 10) (hlo : 0 ≤ lost) (hlo2 : lost ≤ 1000000) :
    Calls Tryd.prog 5 #[.pointer (some ⟨b, 0, none⟩), .agg #[.int .i64 x0, .int .i64 x1, .int .i64 x2]] w fun e w' => ∃ v', e = .returned (.int .i64 (addE ⟨x0, x1, x2⟩)) ∧ RHintsO base w' b v' (addL l ⟨x0, x1, x2⟩) (addN l lost ⟨x0, x1, x2⟩) ∧ (foot v' = foot v ∨ ∃ k, foot v' = some k ∧ w.heap.size ≤ k) ∧ Fr (fun k => k = b) w w' := by
  have hB := ho.1
  have hbl := hB.lt
  obtain ⟨r, rfl, hrx, hrA, hro, _⟩ := HsAt.of_ow ho.2.1 hg
  subst hrx
  have Ho := hid ho
  have hbh : base ≤ b := ho.2.2.2
  have hall : w.cell? ⟨b, 0, none⟩ = some (.slice r.A r.xs.length r.c) := hB.cell 0
  have HB := hid hB
  clear ho hB
  go_enter Tryd.func5, Tryd.ntmps5
  go_upto_region 2 with (go_at_call 13; refine (rkey2_any _ _).mono ?_; rintro e w' ⟨rfl, rfl⟩)
  go_cut [5, 33] (fun _ q wx => q = .bool (!hintOk ⟨x0, x1, x2⟩) ∧ wx = w.alloc (.cells #[.int .i64 x0, .int .i64 x1, .int .i64 x2] 32))
  case first =>
    go_wp2_with fail
    all_goals
      go_meet
      refine ⟨?_, rfl⟩
      congr 1
      first | (simp [hintOk, nodeB, *]; done) | (simp [hintOk, nodeB, *]; omega) | (rw [Bool.eq_iff_iff]; simp [hintOk, nodeB, *]; done) | (rw [Bool.eq_iff_iff]; simp [hintOk, nodeB, *]; omega)
  case rest =>
  rcases hok : hintOk ⟨x0, x1, x2⟩ with _ | _
  · rw [hok, Bool.not_false] at hcut
    obtain ⟨rfl, rfl⟩ := hcut
    have Hok := hid hok
    clear hok
    go_wp2_with fail
    go_ret
    first
      | refine ⟨.slice r.A r.xs.length r.c, ?_, ?_, .inl rfl, (Fr.refl _ _).alloc _⟩
      | refine ⟨?_, .slice r.A r.xs.length r.c, ?_, .inl rfl, (Fr.refl _ _).alloc _⟩
    · exact ret_i (by rw [addE, if_neg (by rw [Hok.out]; decide)])
    · rw [addL, addN, if_neg (by rw [Hok.out]; decide), if_neg (by rw [Hok.out]; decide)]
      exact Ho.out.belowS (by (repeat (first | with_reducible exact Below.refl _ _ | with_reducible assumption | (with_reducible refine Below.drew ?_) | (with_reducible refine Below.manyDrew ?_ _) | ((with_reducible refine Below.alloc ?_ ?_ _); rotate_left; (focus (first | omega | (dsimp only; omega) | (simp; done) | (simp; omega)))) | ((with_reducible refine Below.setCell ?_ ?_ _); rotate_left; (focus (first | omega | (dsimp only; omega) | (simp; done) | (simp; omega)))) | ((with_reducible refine Below.step ?_ (by assumption) ?_); rotate_left; (focus (first | omega | (dsimp only; omega) | (simp; done) | (simp; omega)))))))
  · rw [hok, Bool.not_true] at hcut
    obtain ⟨rfl, rfl⟩ := hcut
    have Hok := hid hok
    clear hok
    -- the world ahead of the loop: the box of x is block w.heap.size
    obtain ⟨wA, hwA⟩ : ∃ wA : World, wA = w.alloc (.cells #[.int .i64 x0, .int .i64 x1, .int .i64 x2] 32) := ⟨_, rfl⟩
    have hbA : Below w.heap.size w wA := by rw [hwA]; (repeat (first | with_reducible exact Below.refl _ _ | with_reducible assumption | (with_reducible refine Below.drew ?_) | (with_reducible refine Below.manyDrew ?_ _) | ((with_reducible refine Below.alloc ?_ ?_ _); rotate_left; (focus (first | omega | (dsimp only; omega) | (simp; done) | (simp; omega)))) | ((with_reducible refine Below.setCell ?_ ?_ _); rotate_left; (focus (first | omega | (dsimp only; omega) | (simp; done) | (simp; omega)))) | ((with_reducible refine Below.step ?_ (by assumption) ?_); rotate_left; (focus (first | omega | (dsimp only; omega) | (simp; done) | (simp; omega))))))
    have hsA : w.heap.size < wA.heap.size := by rw [hwA]; simp
    have hX : HAt wA w.heap.size 0 ⟨x0, x1, x2⟩ := by rw [hwA]; exact HAt.of_blk (Blk.new w _ _)
    have hallA : wA.cell? ⟨b, 0, none⟩ = some (.slice r.A r.xs.length r.c) := (hbA.cell (p := ⟨b, 0, none⟩) hbl).trans hall
    have hrAA := hrA.stays hbA
    have HwA := hid hwA
    rw [← hwA]
    clear hall hwA
    go_wp2_with fail
    go_loopw [6, 7] (fun a i wr => ∃ k : Nat, k ≤ r.xs.length ∧ i = .int .i64 k ∧ (∀ y ∈ r.xs.take k, newerH ⟨x0, x1, x2⟩ y = false) ∧ Ow H.cells 3 wA.heap.size 32 wr a ((r.xs.take k).filter (unlikeH ⟨x0, x1, x2⟩)) ∧ Below wA.heap.size wA wr) (fun _ i _ => r.xs.length - (intOf i).toNat)
    case atStart => exact ⟨0, Nat.zero_le _, rfl, by simp, Ow.nil _ _ _ _ _, Below.refl _ _⟩
    case round =>
      obtain ⟨k, hk, rfl, hno, hOa, hbr⟩ := hrel
      have hz0 := hbr.size
      have hc0 : wr.cell? ⟨b, 0, none⟩ = some (.slice r.A r.xs.length r.c) := (hbr.cell (p := ⟨b, 0, none⟩) (by simp only; omega)).trans hallA
      obtain ⟨q0, q1, q2⟩ := hX.stays hbr (by omega)
      simp only [Nat.zero_add] at q1 q2
      have hbl2 : b < wr.heap.size := by omega
      have hbl3 : w.heap.size < wr.heap.size := by omega
      have hbl4 : w.heap.size ≠ wr.heap.size := by omega
      have hbl5 : b ≠ wr.heap.size := by omega
      have HN := hid hno
      have hfl : ((r.xs.take k).filter (unlikeH ⟨x0, x1, x2⟩)).length ≤ 10 := by
        have h1 := List.length_filter_le (unlikeH ⟨x0, x1, x2⟩) (r.xs.take k)
        have h2 : (r.xs.take k).length ≤ k := by rw [List.length_take]; omega
        omega
      clear hno
      by_cases hlt : k < r.xs.length
      · obtain ⟨g, off, hA, hgl, hcells⟩ := hrAA.row (by omega)
        obtain ⟨k0, k1, k2⟩ := (hcells k hlt).stays hbr hgl
        have HT := hid (take_snocD H.zero hlt)
        have HM := hid (getD_memD H.zero hlt)
        generalize r.xs.getD k H.zero = y at *
        obtain ⟨y0, y1, y2⟩ := y
        simp only at k0 k1 k2
        rw [hA] at hc0
        have HF := hid (filter_snoc1 (q := unlikeH ⟨x0, x1, x2⟩) (l := r.xs.take k) (y := ⟨y0, y1, y2⟩))
        rw [← HT.out] at HF
        generalize (r.xs.take k).filter (unlikeH ⟨x0, x1, x2⟩) = L at *
        clear hA hcells
        have hbelA : Below wA.heap.size wA (wr.alloc (.cells #[.int .i64 y0, .int .i64 y1, .int .i64 y2] 32)) := by (repeat (first | with_reducible exact Below.refl _ _ | with_reducible assumption | (with_reducible refine Below.drew ?_) | (with_reducible refine Below.manyDrew ?_ _) | ((with_reducible refine Below.alloc ?_ ?_ _); rotate_left; (focus (first | omega | (dsimp only; omega) | (simp; done) | (simp; omega)))) | ((with_reducible refine Below.setCell ?_ ?_ _); rotate_left; (focus (first | omega | (dsimp only; omega) | (simp; done) | (simp; omega)))) | ((with_reducible refine Below.step ?_ (by assumption) ?_); rotate_left; (focus (first | omega | (dsimp only; omega) | (simp; done) | (simp; omega))))))
        rcases hal : alikeH ⟨x0, x1, x2⟩ ⟨y0, y1, y2⟩ with _ | _
        · have Hal := hid hal
          have Hne : Hid (y0 ≠ x0 ∨ (y0 = x0 ∧ y1 ≠ x1)) := hid (by
            by_cases h0 : y0 = x0
            · by_cases h1 : y1 = x1
              · rw [← Bool.not_eq_true] at hal; exact absurd (by simp [alikeH, h0, h1]) hal
              · exact .inr ⟨h0, h1⟩
            · exact .inl h0)
          have HF2 := hid (show (r.xs.take (k + 1)).filter (unlikeH ⟨x0, x1, x2⟩) = L ++ [⟨y0, y1, y2⟩] by rw [HF.out, if_pos (by rw [unlikeH, hal]; rfl)])
          have HN2 := hid (show ∀ y ∈ r.xs.take (k + 1), newerH ⟨x0, x1, x2⟩ y = false by
            intro y hy
            rw [HT.out] at hy
            rcases List.mem_append.1 hy with hy | hy
            · exact HN.out y hy
            · rw [List.mem_singleton.1 hy, newerH, hal]; rfl)
          clear hal hbelA
          rcases Hne.out with hn | ⟨rfl, hn⟩
          all_goals
            go_wp2_with (at_builtin; refine appH _ wA.heap.size _ L y0 y1 y2 (hOa.alloc _) rfl _ _ rfl rfl rfl ?_ ?_ ?_ ?_)
            all_goals try (first | omega | (simp; done) | (simp; omega))
            intro v2 w2 h2 f2 o2
            have hb2 := hbr.trans ((((Fr.refl _ wr).alloc _).step f2).below0 hz0 hOa.ge)
            clear f2 o2
            go_wp2_with fail
            go_roundw
            case rel => exact ⟨k + 1, by omega, by go_num, HN2.out, by rw [HF2.out]; exact h2, hb2⟩
            case measure => simp [intOf]; omega
        · obtain ⟨rfl, rfl⟩ := alikeH_parts hal
          have HF2 := hid (show (r.xs.take (k + 1)).filter (unlikeH ⟨y0, y1, x2⟩) = L by rw [HF.out, if_neg (by rw [unlikeH, hal]; decide)])
          have Hal := hid hal
          clear hal
          by_cases hv : x2 < y2
          · have Hany := hid (show r.xs.any (newerH ⟨y0, y1, x2⟩) = true from List.any_eq_true.2 ⟨_, HM.out, by rw [newerH, Hal.out, Bool.true_and]; exact decide_eq_true hv⟩)
            go_wp2_with fail
            go_ret
            have hbw : Below w.heap.size w (wr.alloc (.cells #[.int .i64 y0, .int .i64 y1, .int .i64 y2] 32)) := hbA.trans (hbelA.mono (by omega))
            first
              | refine ⟨.slice r.A r.xs.length r.c, ?_, ?_, .inl rfl, Fr.ofB hbw⟩
              | refine ⟨?_, .slice r.A r.xs.length r.c, ?_, .inl rfl, Fr.ofB hbw⟩
            · exact ret_i (by rw [addE, if_pos Hok.out])
            · rw [addL, addN, if_pos Hok.out, if_pos Hok.out, if_pos Hany.out, if_pos Hany.out]
              exact Ho.out.belowS hbw
          · have HN2 := hid (show ∀ y ∈ r.xs.take (k + 1), newerH ⟨y0, y1, x2⟩ y = false by
              intro y hy
              rw [HT.out] at hy
              rcases List.mem_append.1 hy with hy | hy
              · exact HN.out y hy
              · rw [List.mem_singleton.1 hy, newerH, Hal.out, Bool.true_and]; exact decide_eq_false hv)
            go_wp2_with fail
            go_roundw
            case rel => exact ⟨k + 1, by omega, by go_num, HN2.out, by rw [HF2.out]; exact hOa.alloc _, hbelA⟩
            case measure => simp [intOf]; omega
      · obtain rfl : k = r.xs.length := by omega
        rw [List.take_length] at HN hOa hfl
        have HL : Hid (putL r.xs ⟨x0, x1, x2⟩ = r.xs.filter (unlikeH ⟨x0, x1, x2⟩) ++ [⟨x0, x1, x2⟩]) := hid rfl
        have Hany := hid (show r.xs.any (newerH ⟨x0, x1, x2⟩) = false by
          rw [List.any_eq_false]; intro y hy; rw [HN.out y hy]; decide)
        generalize r.xs.filter (unlikeH ⟨x0, x1, x2⟩) = L at *
        go_wp2_with (at_builtin; refine appH _ wA.heap.size _ L x0 x1 x2 hOa rfl _ _ rfl rfl rfl ?_ ?_ ?_ ?_)
        all_goals try (first | omega | (simp; done) | (simp; omega))
        intro v2 w2 h2 f2 o2
        have hb2 : Below w.heap.size w w2 := hbA.trans ((hbr.trans (f2.below0 hz0 hOa.ge)).mono (by omega))
        have hfo : foot v2 ≠ some b ∧ ∀ k, foot v2 = some k → w.heap.size ≤ k := by
          refine ⟨fun e => ?_, fun k e => ?_⟩
          · have := (h2.lt e).1; omega
          · have := (h2.lt e).1; omega
        have HB2 : Hid (Blk w2 b _ _) := hid (HB.out.belowS hb2)
        have hall2 : w2.cell? ⟨b, 0, none⟩ = some (.slice r.A r.xs.length r.c) := HB2.out.cell 0
        have hlost2 : w2.cell? ⟨b, 1, none⟩ = some (.int .i64 lost) := HB2.out.cell 1
        have hz0' := HB2.out.frozen 0
        have hz1' := HB2.out.frozen 1
        have Hfo := hid hfo
        have hml : (L ++ [(⟨x0, x1, x2⟩ : H)]).length ≤ 11 := by rw [List.length_append, List.length_singleton]; omega
        have hm1 : 1 ≤ (L ++ [(⟨x0, x1, x2⟩ : H)]).length := by rw [List.length_append, List.length_singleton]; omega
        clear f2 o2 hfo hc0 q0 q1 q2 hOa
        generalize L ++ [(⟨x0, x1, x2⟩ : H)] = M at *
        have hbA2 : base ≤ wA.heap.size := by omega
        have h2' := h2.mono hbA2
        obtain ⟨A8, c8, rfl, p8, q8, hform⟩ := h2.form
        have H2 := hid h2'
        unfold maxLen at q8
        clear h2 h2'
        obtain ⟨g, off, rfl, hbg, hgl, hfo2, _⟩ := hform (by omega)
        have Hform := hid hfo2
        clear hform hfo2
        by_cases hgt : 10 < M.length
        · have hgt' : (10 : Int) < (M.length : Int) := by omega
          have hc81 : ¬ c8 = 1 := by omega
          have h1m : (1 : Int) ≤ (M.length : Int) := by omega
          have h1m' : 1 ≤ M.length := by omega
          have h1c' : 1 ≤ c8 := by omega
          go_wp2_with fail
          go_ret
          have hdr := H2.out.drop (k := 1) (by omega)
          have hfeq : foot (.slice (some ⟨g, off + 1 * 3, none⟩) (M.length - 1) (c8 - 1)) = some g := foot_some (by omega)
          have hgh : g ≠ b := fun e => Hfo.out.1 (by rw [Hform.out, e])
          have hF8 : Fr (fun k => k = b) w ((w2.setCell ⟨b, 1, none⟩ (.int .i64 (lost + 1))).setCell ⟨b, 0, none⟩ (.slice (some ⟨g, off + 1 * 3, none⟩) (M.length - 1) (c8 - 1))) := Fr.setCell (S := fun k => k = b) (Fr.setCell (S := fun k => k = b) (Fr.ofB hb2) (p := ⟨b, 1, none⟩) (.inl rfl) _) (p := ⟨b, 0, none⟩) (.inl rfl) _
          have hE : addE ⟨x0, x1, x2⟩ = 0 := by rw [addE, if_pos Hok.out]
          first
            | refine ⟨.slice (some ⟨g, off + 1 * 3, none⟩) (M.length - 1) (c8 - 1), ret_i hE.symm, ⟨?_, ?_, ?_, hbh⟩, ?_, hF8⟩
            | refine ⟨ret_i hE.symm, .slice (some ⟨g, off + 1 * 3, none⟩) (M.length - 1) (c8 - 1), ⟨?_, ?_, ?_, hbh⟩, ?_, hF8⟩
          · rw [addN, if_pos Hok.out, if_neg (by rw [Hany.out]; decide), HL.out, if_pos hgt]
            exact (HB2.out.put 1 _).put 0 _
          · rw [addL, if_pos Hok.out, if_neg (by rw [Hany.out]; decide), HL.out, if_pos hgt]
            exact hdr.fr (((Fr.refl (fun k => k = b) _).setCell (p := ⟨b, 1, none⟩) (.inl rfl) _).setCell (p := ⟨b, 0, none⟩) (.inl rfl) _) (fun k hk e => hgh (by rw [hfeq] at hk; cases hk; exact e))
          · exact fun e => hgh (by rw [hfeq] at e; cases e; rfl)
          · exact .inr ⟨g, hfeq, Hfo.out.2 g Hform.out⟩
        · have hgt' : ¬ (10 : Int) < (M.length : Int) := by omega
          go_wp2_with fail
          go_ret
          have hF8 : Fr (fun k => k = b) w (w2.setCell ⟨b, 0, none⟩ (.slice (some ⟨g, off, none⟩) M.length c8)) := Fr.setCell (S := fun k => k = b) (Fr.ofB hb2) (p := ⟨b, 0, none⟩) (.inl rfl) _
          have hE : addE ⟨x0, x1, x2⟩ = 0 := by rw [addE, if_pos Hok.out]
          have e1 : addL r.xs ⟨x0, x1, x2⟩ = M := by rw [addL, if_pos Hok.out, if_neg (by rw [Hany.out]; decide), HL.out, if_neg hgt]
          have e2 : addN r.xs lost ⟨x0, x1, x2⟩ = lost := by rw [addN, if_pos Hok.out, if_neg (by rw [Hany.out]; decide), HL.out, if_neg hgt]
          first
            | refine ⟨.slice (some ⟨g, off, none⟩) M.length c8, ret_i hE.symm, ⟨?_, ?_, ?_, hbh⟩, ?_, hF8⟩
            | refine ⟨ret_i hE.symm, .slice (some ⟨g, off, none⟩) M.length c8, ⟨?_, ?_, ?_, hbh⟩, ?_, hF8⟩
          · rw [e2]; exact HB2.out.put 0 _
          · rw [e1]; exact H2.out.fr ((Fr.refl (fun k => k = b) _).setCell (p := ⟨b, 0, none⟩) (.inl rfl) _) (fun k hk e => Hfo.out.1 (by rw [hk, e]))
          · exact Hfo.out.1
          · exact .inr ⟨g, Hform.out, Hfo.out.2 g Hform.out⟩

-- the reference's Take: the same lists
set_option maxHeartbeats 4000000 in
theorem rtake_any (n : Int) (b base : Nat) (v : Value) (l : List H) (lost : Int) (w : World) (ho : RHintsO base w b v l lost) (hg : ∀ y ∈ l, y.good) (hlen : l.length ≤ 10) :
    Calls Tryd.prog 8 #[.pointer (some ⟨b, 0, none⟩), .int .i64 n] w fun e w' => ∃ (r : SlV H) (v' : Value), e = .returned (.slice r.A r.xs.length r.c) ∧ r.xs = takenL n l ∧ HsAt w' r ∧ (0 < r.xs.length → ∀ b off, r.A = some ⟨b, off, none⟩ → w.heap.size ≤ b ∧ foot v' ≠ some b) ∧ RHintsO base w' b v' (leftL n l) lost ∧ (∀ k, foot v' = some k → w.heap.size ≤ k) ∧ Fr (fun k => k = b) w w' := by
  have hB := ho.1
  have hhl := hB.lt
  have hbh := ho.2.2.2
  obtain ⟨r, rfl, hrx, hrA, _, _⟩ := HsAt.of_ow ho.2.1 hg
  subst hrx
  have hall : w.cell? ⟨b, 0, none⟩ = some (.slice r.A r.xs.length r.c) := hB.cell 0
  have HB := hid hB
  have Hall := hid hall
  clear ho hB
  go_enter Tryd.func8, Tryd.ntmps8
  go_wp2_with fail
  go_loopw [5, 6, 7] (fun a q i wr => ∃ k : Nat, k ≤ r.xs.length ∧ i = .int .i64 k ∧ Ow H.cells 3 w.heap.size 32 wr a (takenL n (r.xs.take k)) ∧ Ow H.cells 3 w.heap.size 32 wr q (leftL n (r.xs.take k)) ∧ (∀ g, foot a = some g → foot q ≠ some g) ∧ Below w.heap.size w wr) (fun _ _ i _ => r.xs.length - (intOf i).toNat)
  case atStart => exact ⟨0, Nat.zero_le _, rfl, Ow.nil _ _ _ _ _, Ow.nil _ _ _ _ _, (fun g h => by cases h), Below.refl _ _⟩
  case round =>
    obtain ⟨k, hk, rfl, hOa, hOb, hdj, hbr⟩ := hrel
    have hz0 := hbr.size
    have Hdj := hid hdj
    have hcb : wr.cell? ⟨b, 0, none⟩ = some (.slice r.A r.xs.length r.c) := (hbr.cell (p := ⟨b, 0, none⟩) hhl).trans Hall.out
    clear hdj
    by_cases hlt : k < r.xs.length
    · obtain ⟨g, off, hA, hgl, hcells⟩ := hrA.row (by omega)
      obtain ⟨k0, k1, k2⟩ := (hcells k hlt).stays hbr hgl
      have HT := hid (take_snocD H.zero hlt)
      have hl1 : (takenL n (r.xs.take k)).length ≤ 10 := by
        have h1 := List.length_filter_le (fun x : H => decide (x.node = n)) (r.xs.take k)
        have h2 : (r.xs.take k).length ≤ k := by rw [List.length_take]; omega
        unfold takenL; omega
      have hl2 : (leftL n (r.xs.take k)).length ≤ 10 := by
        have h1 := List.length_filter_le (fun x : H => !decide (x.node = n)) (r.xs.take k)
        have h2 : (r.xs.take k).length ≤ k := by rw [List.length_take]; omega
        unfold leftL; omega
      generalize r.xs.getD k H.zero = y at *
      have HA2 := hid (takenL_snoc n (r.xs.take k) y)
      have HB2 := hid (leftL_snoc n (r.xs.take k) y)
      rw [← HT.out] at HA2 HB2
      generalize takenL n (r.xs.take k) = La at *
      generalize leftL n (r.xs.take k) = Lb at *
      obtain ⟨y0, y1, y2⟩ := y
      simp only at k0 k1 k2
      rw [hA] at hcb
      clear hA hcells hall
      by_cases hy : y0 = n
      · subst hy
        go_wp2_with (at_builtin; refine appH _ w.heap.size _ La y0 y1 y2 hOa rfl _ _ rfl rfl rfl ?_ ?_ ?_ ?_)
        all_goals try (first | omega | (simp; done) | (simp; omega))
        intro v2 w2 h2 f2 o2
        have f2' := f2
        have hOb2 := hOb.fr f2' (fun g hg e => Hdj.out g e.symm hg)
        have hb2 := hbr.trans (f2'.below0 hz0 hOa.ge)
        have hdj2 : ∀ g, foot v2 = some g → foot u6 ≠ some g := fun g hg e => by
          rcases o2 with o | o
          · exact Hdj.out g (by rw [← o]; exact hg) e
          · have := (hOb.lt e).2
            rw [hg] at o
            cases o
            first | omega | (simp at this; omega)
        have Hdj2 := hid hdj2
        clear hdj2 f2 f2' o2 hOb hOa hcb
        go_wp2_with fail
        go_roundw
        case rel => exact ⟨k + 1, by omega, by go_num, by rw [HA2.out]; first | (rw [if_pos rfl]; exact h2) | (rw [if_pos trivial]; exact h2), by rw [HB2.out]; first | (rw [if_pos rfl]; exact hOb2) | (rw [if_pos trivial]; exact hOb2), Hdj2.out, hb2⟩
        case measure => simp [intOf]; omega
      · have Hy := hid hy
        go_wp2_with (at_builtin; refine appH _ w.heap.size _ Lb y0 y1 y2 hOb rfl _ _ rfl rfl rfl ?_ ?_ ?_ ?_)
        all_goals try (first | omega | (simp; done) | (simp; omega))
        intro v2 w2 h2 f2 o2
        have f2' := f2
        have hOa2 := hOa.fr f2' (fun g hg e => Hdj.out g hg e.symm)
        have hb2 := hbr.trans (f2'.below0 hz0 hOb.ge)
        have hdj2 : ∀ g, foot u5 = some g → foot v2 ≠ some g := fun g hg e => by
          rcases o2 with o | o
          · exact Hdj.out g hg (by rw [← o]; exact e)
          · have := (hOa.lt hg).2
            rw [e] at o
            cases o
            first | omega | (simp at this; omega)
        have Hdj2 := hid hdj2
        clear hdj2 f2 f2' o2 hOb hOa hy hcb
        go_wp2_with fail
        go_roundw
        case rel => exact ⟨k + 1, by omega, by go_num, by rw [HA2.out, if_neg Hy.out]; exact hOa2, by rw [HB2.out, if_neg Hy.out]; exact h2, Hdj2.out, hb2⟩
        case measure => simp [intOf]; omega
    · obtain rfl : k = r.xs.length := by omega
      rw [List.take_length] at hOa hOb
      obtain ⟨q, rfl, hqx, hqA, _, hqf⟩ := HsAt.of_ow hOa (fun y hy => hg y (List.mem_filter.1 hy).1)
      obtain ⟨A8, c8, rfl, p8, q8, _⟩ := hOb.form
      have Hqx := hid hqx
      have Hqf := hid hqf
      have hBr : Blk wr b _ _ := HB.out.belowS hbr
      have hz8 := hBr.frozen 0
      have HBr := hid hBr
      have HOb := hid hOb
      have hFh : Fr (fun k => k = b) wr (wr.setCell ⟨b, 0, none⟩ (.slice A8 (leftL n r.xs).length c8)) := (Fr.refl (fun k => k = b) wr).setCell (p := ⟨b, 0, none⟩) (.inl rfl) _
      have HFh := hid hFh
      clear hqx hqf hBr hOa hOb hFh hall
      go_wp2_with fail
      go_ret
      refine ⟨q, .slice A8 (leftL n r.xs).length c8, rfl, Hqx.out, hqA.fr HFh.out ?_, ?_, ⟨HBr.out.put 0 _, HOb.out.mono ?_ |>.fr HFh.out ?_, ?_, hbh⟩, ?_, (Fr.ofB hbr).step HFh.out⟩
      · intro h0 b' off hA e
        have := (Hqf.out h0 b' off hA).2
        omega
      · intro h0 b' off hA
        have := Hqf.out h0 b' off hA
        exact ⟨this.2, Hdj.out b' this.1⟩
      · omega
      · intro g hg e
        have := (HOb.out.lt hg).1
        omega
      · intro e
        have := (HOb.out.lt e).1
        omega
      · intro k hk
        exact (HOb.out.lt hk).1

set_option maxHeartbeats 2000000 in
theorem hsame_any (s r : SlV H) (w : World) (hs : HsAt w s) (hr : HsAt w r) (he : s.xs = r.xs) :
    Calls Tryd.prog 10 #[.slice s.A s.xs.length s.c, .slice r.A r.xs.length r.c] w fun e w' => e = .returned (.bool true) ∧ Below w.heap.size w w' := by
  obtain ⟨A, c, xs⟩ := s
  obtain ⟨A', c', xs'⟩ := r
  simp only at he
  subst he
  have hlen := hs.len
  unfold maxLen at hlen
  simp only at hlen ⊢
  go_enter Tryd.func10, Tryd.ntmps10
  go_wp2_with fail
  go_loopw [5] (fun i wr => ∃ k : Nat, k ≤ xs.length ∧ i = .int .i64 k ∧ Below w.heap.size w wr) (fun i _ => xs.length - (intOf i).toNat)
  case atStart => exact ⟨0, Nat.zero_le _, rfl, Below.refl _ _⟩
  case round =>
    obtain ⟨k, hk, rfl, hbr⟩ := hrel
    by_cases hlt : k < xs.length
    · obtain ⟨g, off, hA, hgl, hc⟩ := hs.row (by simp only; omega)
      obtain ⟨g', off', hA', hgl', hc'⟩ := hr.row (by simp only; omega)
      simp only at hA hA' hc hc'
      subst hA hA'
      obtain ⟨k0, k1, k2⟩ := (hc k hlt).stays hbr hgl
      obtain ⟨j0, j1, j2⟩ := (hc' k hlt).stays hbr hgl'
      generalize xs.getD k H.zero = y at *
      obtain ⟨y0, y1, y2⟩ := y
      simp only at k0 k1 k2 j0 j1 j2
      clear hc hc'
      go_wp2_with fail
      go_quiet (fail)
      go_wp2_with fail
      go_roundw
      case rel => exact ⟨k + 1, by omega, by go_num, by exact Below.manyDrew hbr _⟩
      case measure => simp [intOf]; omega
    · obtain rfl : k = xs.length := by omega
      go_wp2_with fail
      go_ret
      exact ⟨rfl, hbr⟩
end Go.Proofs.YtjhphagcmiggdaaDoor
