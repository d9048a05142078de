/-
  CONTRACT of the reference's Out; both mails beside each other. CONDITIONS: none.
-/
import Derived.Test.YtgamocljdbffpaaDoorRMail
import Derived.Test.YtgamocljdbffpaaDoorMail4
namespace Go.Proofs.YtgamocljdbffpaaDoor
open Go.RowKit
open Go.ChangeShapes Go.WideShapes Go.ChangeAt

set_option maxHeartbeats 4000000 in
set_option maxRecDepth 100000 in
theorem rmout_any (base g n : Nat) (u : Value) (L : List Lt) (C : Int → Int → Bool) (w : World) (hO : RMO base w g u L C) (hn : n < L.length) :
    Calls Tryd.prog 10 #[.pointer (some ⟨g, 0, none⟩), .int .i64 n] w (RRes base g u w (.tuple #[]) (Lt.out L n) C) := by
  obtain ⟨gb, off, c, hu, hlc, hcm, hbg, hgl, hfo, -, -⟩ := hO.own.get (by omega)
  have HO := hid hO
  have hls := hO.lens
  have c0 := hO.c0
  have z0 := hO.fz 0
  rw [hu] at c0
  have hOw : Ow Lt.cells 7 base 37 w (.slice (some ⟨gb, off, none⟩) L.length c) L := by rw [← hu]; exact hO.own
  have hT := hOw.take (k := n) (by omega)
  have hD := hOw.drop (k := n + 1) (by omega)
  obtain ⟨r1, hv1, hx1, hA1, -, -⟩ := LtsAt.of_ow hT (fun y hy => hO.good y (List.mem_of_mem_take hy))
  obtain ⟨r2, hv2, hx2, hA2, -, -⟩ := LtsAt.of_ow hD (fun y hy => hO.good y (List.mem_of_mem_drop hy))
  have hlt1 : r1.xs.length = n := by rw [hx1, List.length_take]; omega
  have hlt2 : r2.xs.length = L.length - (n + 1) := by rw [hx2, List.length_drop]
  have hgne : gb ≠ g := fun e => hO.off (by rw [hfo, e])
  have hs := hO.lt
  have hbs := hO.lb
  have Hu := hid hu
  have Hfo := hid hfo
  have Hx1 := hid hx1
  have Hx2 := hid hx2
  have HA1 := hid hA1
  have HA2 := hid hA2
  have Hv1 := hid hv1
  have Hv2 := hid hv2
  have hn0 : (0 : Int) ≤ (n : Int) := by omega
  have hnl : (n : Int) < (L.length : Int) := by omega
  unfold maxLen at hcm
  clear hO hu hOw hT hD hv1 hx1 hA1 hv2 hx2 hA2 hfo
  have Hlt1 := hid hlt1
  have Hlt2 := hid hlt2
  clear hlt1 hlt2
  rcases (show c = n + 1 ∨ n + 1 < c by omega) with rfl | hcn
  · go_enter Tryd.func10, Tryd.ntmps10
    go_wp2_with (at_builtin; refine appLts _ w.heap.size _ [] r1 HA1.out (Ow.nil _ _ _ _ _) rfl _ _ rfl rfl Hv1.out (by rw [Hlt1.out]; simp; omega) (Nat.le_refl _) ?_)
    intro v3 w3 h3 f3 o3
    have hb3 : Below w.heap.size w w3 := f3.below0 (by omega) (fun i hi => by cases hi)
    have e0 := (hb3.cell (p := ⟨g, 0, none⟩) hs).trans c0
    have y0 : w3.frozen? ⟨g, 0, none⟩ = false := (hb3.frozen (p := ⟨g, 0, none⟩) hs).trans z0
    have hA23 := HA2.out.stays hb3
    have HA23 := hid hA23
    have h3' : Ow Lt.cells 7 w.heap.size 37 w3 v3 (L.take n) := by
      rw [← Hx1.out]; exact h3
    obtain ⟨A3, c3, rfl, hl3, hm3, -⟩ := h3'.form
    have HO3 := hid h3'
    have Hb3 := hid hb3
    have hlt3 : (L.take n).length = n := by rw [List.length_take]; omega
    have hz3 := hb3.size
    clear h3 h3' f3 o3 hA23 hb3
    rw [hlt3]
    have HOn := hid (show Ow Lt.cells 7 w.heap.size 37 w3 (.slice A3 n c3) (L.take n) from by have := HO3.out; rw [hlt3] at this; exact this)
    have hne3 : ¬ some g = foot (.slice A3 n c3) := fun e => by
      have := HOn.out.lt (g := g) e.symm
      omega
    go_upto_region 2 with fail
    go_wp2_with (at_builtin; refine appLts _ w.heap.size _ (L.take n) ⟨some ⟨gb, off, none⟩, 0, []⟩ (LtsAt.empty _ _ _) HOn.out rfl _ _ rfl rfl rfl (by rw [hlt3]; simp; omega) hz3 ?_)
    intro v8 w8 h8 f8 o8
    have hO8 : Ow Lt.cells 7 w.heap.size 37 w8 v8 (Lt.out L n) := by 
      rw [Lt.out, List.drop_eq_nil_of_le (by omega), List.append_nil]
      exact h8
    obtain ⟨A8, c8, rfl, -, -, -⟩ := hO8.form
    have e8 := (f8.cell (p := ⟨g, 0, none⟩) (show g < w3.heap.size by omega) hne3).trans e0
    have y8 := (f8.frozen (p := ⟨g, 0, none⟩) (show g < w3.heap.size by omega) hne3).trans y0
    have hb8 : Below w.heap.size w w8 := Hb3.out.trans (f8.below0 hz3 (fun i hi => HOn.out.ge i hi))
    have hlo := Lt.out_length hn
    have hfin := HO.out.put (X := w8) (w8 := w8) hb8 (hO8.mono (by omega)) (Fr.refl _ _) (.inr (fun k hk => hO8.ge k hk.symm)) (fun y hy => by
      rcases List.mem_append.1 hy with hy | hy
      · exact HO.out.good y (List.mem_of_mem_take hy)
      · exact HO.out.good y (List.mem_of_mem_drop hy)) (by omega)
    have ho := fun k (hk : foot (.slice A8 (Lt.out L n).length c8) = some k) => hO8.ge k hk.symm
    have Hfin := hid hfin
    have Ho := hid ho
    clear hfin ho hO8 hb8 h8 f8 o8 hlo
    go_wp2_with fail
    go_end0
    exact ⟨_, rfl, Hfin.out.1, Hfin.out.2, .inr Ho.out⟩
  · go_enter Tryd.func10, Tryd.ntmps10
    go_wp2_with (at_builtin; refine appLts _ w.heap.size _ [] r1 HA1.out (Ow.nil _ _ _ _ _) rfl _ _ rfl rfl Hv1.out (by rw [Hlt1.out]; simp; omega) (Nat.le_refl _) ?_)
    intro v3 w3 h3 f3 o3
    have hb3 : Below w.heap.size w w3 := f3.below0 (by omega) (fun i hi => by cases hi)
    have e0 := (hb3.cell (p := ⟨g, 0, none⟩) hs).trans c0
    have y0 : w3.frozen? ⟨g, 0, none⟩ = false := (hb3.frozen (p := ⟨g, 0, none⟩) hs).trans z0
    have hA23 := HA2.out.stays hb3
    have HA23 := hid hA23
    have h3' : Ow Lt.cells 7 w.heap.size 37 w3 v3 (L.take n) := by
      rw [← Hx1.out]; exact h3
    obtain ⟨A3, c3, rfl, hl3, hm3, -⟩ := h3'.form
    have HO3 := hid h3'
    have Hb3 := hid hb3
    have hlt3 : (L.take n).length = n := by rw [List.length_take]; omega
    have hz3 := hb3.size
    clear h3 h3' f3 o3 hA23 hb3
    rw [hlt3]
    have HOn := hid (show Ow Lt.cells 7 w.heap.size 37 w3 (.slice A3 n c3) (L.take n) from by have := HO3.out; rw [hlt3] at this; exact this)
    have hne3 : ¬ some g = foot (.slice A3 n c3) := fun e => by
      have := HOn.out.lt (g := g) e.symm
      omega
    go_upto_region 2 with fail
    go_wp2_with (at_builtin; refine appLts _ w.heap.size _ (L.take n) r2 HA23.out HOn.out rfl _ _ rfl rfl Hv2.out (by rw [hlt3, Hlt2.out]; omega) hz3 ?_)
    intro v8 w8 h8 f8 o8
    have hO8 : Ow Lt.cells 7 w.heap.size 37 w8 v8 (Lt.out L n) := by 
      rw [Lt.out, ← Hx2.out]
      exact h8
    obtain ⟨A8, c8, rfl, -, -, -⟩ := hO8.form
    have e8 := (f8.cell (p := ⟨g, 0, none⟩) (show g < w3.heap.size by omega) hne3).trans e0
    have y8 := (f8.frozen (p := ⟨g, 0, none⟩) (show g < w3.heap.size by omega) hne3).trans y0
    have hb8 : Below w.heap.size w w8 := Hb3.out.trans (f8.below0 hz3 (fun i hi => HOn.out.ge i hi))
    have hlo := Lt.out_length hn
    have hfin := HO.out.put (X := w8) (w8 := w8) hb8 (hO8.mono (by omega)) (Fr.refl _ _) (.inr (fun k hk => hO8.ge k hk.symm)) (fun y hy => by
      rcases List.mem_append.1 hy with hy | hy
      · exact HO.out.good y (List.mem_of_mem_take hy)
      · exact HO.out.good y (List.mem_of_mem_drop hy)) (by omega)
    have ho := fun k (hk : foot (.slice A8 (Lt.out L n).length c8) = some k) => hO8.ge k hk.symm
    have Hfin := hid hfin
    have Ho := hid ho
    clear hfin ho hO8 hb8 h8 f8 o8 hlo
    go_wp2_with fail
    go_end0
    exact ⟨_, rfl, Hfin.out.1, Hfin.out.2, .inr Ho.out⟩

/-! ### what is refused for its ends, whatever the numbers -/
theorem msend_bad (base s bm nc : Nat) (x0 x1 x2 x3 x4 : Int) (x5 : Bool) (x6 : ByteArray) (v : Value) (L : List Lt) (C : Int → Int → Bool) (w : World) (hO : MailO base w s bm v L nc C) (he : endsE x0 x1 ≠ 0) :
    Calls Tryd.prog 9 #[.pointer (some ⟨s, 0, none⟩), .agg #[.int .i64 x0, .int .i64 x1, .int .i64 x2, .int .i64 x3, .int .i64 x4, .bool x5, .string x6]] w
      (MRes base s bm v w (errV (endsE x0 x1)) L nc C) := by
  have hEn := hid (fun W => show Calls Tryd.prog 35 #[.int .i64 x0, .int .i64 x1] W (fun e w' => e = .returned (.iface 86 (.int .i64 (endsE x0 x1))) ∧ W = w') from by
    have := ends_any x0 x1 W
    rw [errV_ne he] at this
    exact this)
  rw [errV_ne he]
  have HO := hid hO
  generalize hce : endsE x0 x1 = ce at *
  clear hO he hce
  go_enter Tryd.func9, Tryd.ntmps9
  go_wp2_with fail
  refine (hEn.out _).mono ?_
  rintro e w' ⟨rfl, rfl⟩
  go_wp2_with fail
  go_ret
  exact MRes.no HO.out (by (repeat (first | with_reducible exact Below.refl _ _ | with_reducible assumption | (with_reducible refine Below.drew ?_) | (with_reducible refine Below.manyDrew ?_ _) | ((with_reducible refine Below.alloc ?_ ?_ _); rotate_left; (focus (first | omega | (dsimp only; omega) | (simp; done) | (simp; omega)))) | ((with_reducible refine Below.setCell ?_ ?_ _); rotate_left; (focus (first | omega | (dsimp only; omega) | (simp; done) | (simp; omega)))) | ((with_reducible refine Below.step ?_ (by assumption) ?_); rotate_left; (focus (first | omega | (dsimp only; omega) | (simp; done) | (simp; omega)))))))
theorem rmsend_bad (base g : Nat) (x0 x1 x2 x3 x4 : Int) (x5 : Bool) (x6 : ByteArray) (u : Value) (L : List Lt) (C : Int → Int → Bool) (w : World) (hO : RMO base w g u L C) (he : endsE x0 x1 ≠ 0) :
    Calls Tryd.prog 7 #[.pointer (some ⟨g, 0, none⟩), .agg #[.int .i64 x0, .int .i64 x1, .int .i64 x2, .int .i64 x3, .int .i64 x4, .bool x5, .string x6]] w
      (RRes base g u w (.int .i64 (endsE x0 x1)) L C) := by
  have hEn := hid (fun W => rends_any x0 x1 W)
  have HO := hid hO
  generalize hce : endsE x0 x1 = ce at *
  have hcb : (ce == 0) = false := by rw [beq_eq_false_iff_ne]; exact he
  clear he hO hce
  go_enter Tryd.func7, Tryd.ntmps7
  go_wp2_with fail
  refine (hEn.out _).mono ?_
  rintro e w' ⟨rfl, rfl⟩
  go_wp2_with fail
  go_quiet (fail)
  go_wp2_with fail
  go_ret
  exact RRes.no HO.out (Below.manyDrew (by (repeat (first | with_reducible exact Below.refl _ _ | with_reducible assumption | (with_reducible refine Below.drew ?_) | (with_reducible refine Below.manyDrew ?_ _) | ((with_reducible refine Below.alloc ?_ ?_ _); rotate_left; (focus (first | omega | (dsimp only; omega) | (simp; done) | (simp; omega)))) | ((with_reducible refine Below.setCell ?_ ?_ _); rotate_left; (focus (first | omega | (dsimp only; omega) | (simp; done) | (simp; omega)))) | ((with_reducible refine Below.step ?_ (by assumption) ?_); rotate_left; (focus (first | omega | (dsimp only; omega) | (simp; done) | (simp; omega))))))) _)
theorem sendL_ne {C : Int → Int → Bool} {L : List Lt} {y : Lt} (h : sendE L y ≠ 0) : sendL C L y = L := by
  unfold sendE at h
  unfold sendL
  split
  · rename_i h1
    rw [if_pos h1] at h
    split
    · rename_i h2
      rw [if_pos h2] at h
      split
      · rfl
      · unfold putE at h
        unfold putL
        split
        · rfl
        · rename_i h3
          rw [if_neg h3] at h
          exact absurd rfl h
    · rfl
  · rfl
theorem rmsend_all (base g : Nat) (x0 x1 x2 x3 x4 : Int) (x5 : Bool) (x6 : ByteArray) (hx : (⟨x2, x3, x4, x5, x6⟩ : E).good) (u : Value) (L : List Lt) (C : Int → Int → Bool) (w : World) (hO : RMO base w g u L C) :
    Calls Tryd.prog 7 #[.pointer (some ⟨g, 0, none⟩), .agg #[.int .i64 x0, .int .i64 x1, .int .i64 x2, .int .i64 x3, .int .i64 x4, .bool x5, .string x6]] w
      (RRes base g u w (.int .i64 (sendE L ⟨x0, x1, x2, x3, x4, x5, x6⟩)) (sendL C L ⟨x0, x1, x2, x3, x4, x5, x6⟩) C) := by
  by_cases he : endsE x0 x1 = 0
  · obtain ⟨h0, h1, -⟩ := endsE_zero he
    have hg : (⟨x0, x1, x2, x3, x4, x5, x6⟩ : Lt).good := ⟨wfI_node h0, wfI_node h1, hx.1, hx.2.1, hx.2.2.1, trivial, hx.2.2.2⟩
    by_cases hz : sendE L ⟨x0, x1, x2, x3, x4, x5, x6⟩ = 0
    · rw [hz]; exact rmsend_ok base g x0 x1 x2 x3 x4 x5 x6 hg u L C w hO hz
    · rw [sendL_ne hz]; exact rmsend_no base g x0 x1 x2 x3 x4 x5 x6 hg u L C w hO hz
  · rw [sendE, if_neg (show ¬ endsE x0 x1 = 0 from he), sendL, if_neg (show ¬ endsE x0 x1 = 0 from he)]
    exact rmsend_bad base g x0 x1 x2 x3 x4 x5 x6 u L C w hO he
theorem msend_all (base s bm nc : Nat) (x0 x1 x2 x3 x4 : Int) (x5 : Bool) (x6 : ByteArray) (hx : (⟨x2, x3, x4, x5, x6⟩ : E).good) (v : Value) (L : List Lt) (C : Int → Int → Bool) (w : World) (hO : MailO base w s bm v L nc C) :
    Calls Tryd.prog 9 #[.pointer (some ⟨s, 0, none⟩), .agg #[.int .i64 x0, .int .i64 x1, .int .i64 x2, .int .i64 x3, .int .i64 x4, .bool x5, .string x6]] w
      (MRes base s bm v w (errV (sendE L ⟨x0, x1, x2, x3, x4, x5, x6⟩)) (sendL C L ⟨x0, x1, x2, x3, x4, x5, x6⟩) nc C) := by
  by_cases he : endsE x0 x1 = 0
  · obtain ⟨h0, h1, -⟩ := endsE_zero he
    exact msend_any base s bm nc x0 x1 x2 x3 x4 x5 x6 ⟨wfI_node h0, wfI_node h1, hx.1, hx.2.1, hx.2.2.1, trivial, hx.2.2.2⟩ v L C w hO
  · rw [sendE, if_neg (show ¬ endsE x0 x1 = 0 from he), sendL, if_neg (show ¬ endsE x0 x1 = 0 from he)]
    exact msend_bad base s bm nc x0 x1 x2 x3 x4 x5 x6 v L C w hO he
end Go.Proofs.YtgamocljdbffpaaDoor
