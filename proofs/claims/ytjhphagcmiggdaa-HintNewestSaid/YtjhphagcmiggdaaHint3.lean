/-
  CONTRACT of (*hint.Hints).Add. CONDITIONS: none.
-/
import Derived.Test.YtjhphagcmiggdaaHint2
import Derived.Laws.EntriesVeiled
import Derived.Deep.DeepCutAuto
import Derived.Deep.RegionLaw
import Derived.BigQuiet
namespace Go.Proofs.Ytjhphagcmiggdaa
open Go.RowKit
open Go.ChangeShapes Go.WideShapes Go.ChangeAt

def hintOk (x : H) : Bool := nodeB x.node && keyB x.key && decide (1 ≤ x.ver) && decide (x.ver ≤ 1000)
theorem hintOk_true {x : H} : hintOk x = true ↔ nodeB x.node = true ∧ keyB x.key = true ∧ 1 ≤ x.ver ∧ x.ver ≤ 1000 := by simp [hintOk, and_assoc]
theorem hintOk_good {x : H} (h : hintOk x = true) : x.good := by
  obtain ⟨h1, h2, h3, h4⟩ := hintOk_true.1 h
  have := nodeB_true.1 h1
  have := keyB_true.1 h2
  unfold H.good
  omega
def putL (l : List H) (x : H) : List H := l.filter (unlikeH x) ++ [x]
def addL (l : List H) (x : H) : List H := if hintOk x = true then (if l.any (newerH x) = true then l else if 10 < (putL l x).length then (putL l x).drop 1 else putL l x) else l
def addN (l : List H) (lost : Int) (x : H) : Int := if hintOk x = true then (if l.any (newerH x) = true then lost else if 10 < (putL l x).length then lost + 1 else lost) else lost
def addE (x : H) : Int := if hintOk x = true then 0 else 1
theorem putL_length (l : List H) (x : H) : (putL l x).length ≤ l.length + 1 := by
  unfold putL
  rw [List.length_append, List.length_singleton]
  have := List.length_filter_le (unlikeH x) l
  omega
theorem putL_good {l : List H} {x : H} (h : ∀ y ∈ l, y.good) (hx : x.good) : ∀ y ∈ putL l x, y.good := by
  intro y hy
  rcases List.mem_append.1 hy with hy | hy
  · exact h y (List.mem_filter.1 hy).1
  · rw [List.mem_singleton.1 hy]; exact hx
theorem addL_good {l : List H} {x : H} (h : ∀ y ∈ l, y.good) : ∀ y ∈ addL l x, y.good := by
  unfold addL
  split
  · rename_i hx
    split
    · exact h
    · split
      · exact fun y hy => putL_good h (hintOk_good hx) y (List.mem_of_mem_drop hy)
      · exact putL_good h (hintOk_good hx)
  · exact h
theorem addL_length {l : List H} {x : H} (h : l.length ≤ 10) : (addL l x).length ≤ 10 := by
  unfold addL
  have := putL_length l x
  split
  · split
    · exact h
    · split
      · rw [List.length_drop]; omega
      · omega
  · exact h

set_option maxHeartbeats 4000000 in
theorem hadd_any (x0 x1 x2 : Int) (h base : Nat) (v : Value) (l : List H) (lost : Int) (w : World) (ho : HintsO base w h v l lost) (hg : ∀ y ∈ l, y.good) (hlen : l.length ≤ 10) (hlo : 0 ≤ lost) (hlo2 : lost ≤ 1000000) :
    Calls Try.prog 5 #[.pointer (some ⟨h, 0, none⟩), .agg #[.int .i64 x0, .int .i64 x1, .int .i64 x2]] w fun e w' => ∃ v', e = .returned (errV (addE ⟨x0, x1, x2⟩)) ∧ HintsO base w' h v' (addL l ⟨x0, x1, x2⟩) (addN l lost ⟨x0, x1, x2⟩) ∧ (foot v' = foot v ∨ ∃ k, foot v' = some k ∧ w.heap.size ≤ k) ∧ Fr (fun k => k = h ∨ some k = foot v) w w' := by
  have hB := ho.1
  have hhl := hB.lt
  obtain ⟨r, rfl, hrx, hrA, hro, hrf⟩ := HsAt.of_ow ho.2.1 hg
  subst hrx
  have Ho := hid ho
  have hbh : base ≤ h := ho.2.2.2
  have Hnf := hid ho.2.2.1
  have hall : w.cell? ⟨h, 0, none⟩ = some (.slice r.A r.xs.length r.c) := hB.cell 0
  have Hrf := hid hrf
  clear ho hB hrf
  go_enter Try.func5, Try.ntmps5
  go_upto_region 1 with fail
  go_cut [25] (fun q wx => q = .bool (!hintOk ⟨x0, x1, x2⟩) ∧ wx = w.alloc (.cells #[.int .i64 x0, .int .i64 x1, .int .i64 x2] 29))
  case first =>
    go_wp2_with (first | (go_at_call 9; refine (node_any _ _).mono ?_; rintro e w' ⟨rfl, rfl⟩) | (go_at_call 10; refine (key_any _ _).mono ?_; rintro e w' ⟨rfl, rfl⟩))
    all_goals
      go_meet
      refine ⟨?_, rfl⟩
      congr 1
      try simp only [Bool.not_eq_true, Bool.not_eq_false, Bool.not_eq_true', Bool.not_eq_false'] at *
      first | (simp [hintOk, *]; done) | (simp [hintOk, *]; omega) | (rw [Bool.eq_iff_iff]; simp [hintOk, *]; done) | (rw [Bool.eq_iff_iff]; simp [hintOk, *]; omega)
  case rest =>
    obtain ⟨rfl, rfl⟩ := hcut
    rcases hok : hintOk ⟨x0, x1, x2⟩ with _ | _
    · have Hok := hid hok
      clear hok
      go_wp2_with fail
      go_ret
      refine ⟨_, ?_, ?_, .inl rfl, ?_⟩
      · rw [addE, if_neg (by rw [Hok.out]; decide)]; rfl
      · rw [addL, addN, if_neg (by rw [Hok.out]; decide), if_neg (by rw [Hok.out]; decide)]
        exact Ho.out.belowS (by (repeat (first | with_reducible exact Below.refl _ _ | with_reducible assumption | (with_reducible refine Below.drew ?_) | (with_reducible refine Below.manyDrew ?_ _) | ((with_reducible refine Below.alloc ?_ ?_ _); rotate_left; (focus (first | omega | (dsimp only; omega) | (simp; done) | (simp; omega)))) | ((with_reducible refine Below.setCell ?_ ?_ _); rotate_left; (focus (first | omega | (dsimp only; omega) | (simp; done) | (simp; omega)))) | ((with_reducible refine Below.step ?_ (by assumption) ?_); rotate_left; (focus (first | omega | (dsimp only; omega) | (simp; done) | (simp; omega)))))))
      · exact (Fr.refl _ _).alloc _
    · have Hok := hid hok
      clear hok
      have hbx0 : h ≠ w.heap.size := by omega
      have hbx1 : h ≠ w.heap.size + 1 := by omega
      have hcont : ∀ W, Below w.heap.size w W → HAt W w.heap.size 0 ⟨x0, x1, x2⟩ → W.cell? ⟨w.heap.size + 1, 0, none⟩ = some (.func (.func 11) #[] #[.pointer (some ⟨w.heap.size, 0, none⟩)]) →
          Calls Try.prog 12 #[.slice r.A r.xs.length r.c, .func (.func 13) #[] #[.pointer (some ⟨w.heap.size + 1, 0, none⟩), .pointer (some ⟨w.heap.size, 0, none⟩)]] W fun e w' => e = .returned (.bool (r.xs.any (newerH ⟨x0, x1, x2⟩))) ∧ Below W.heap.size W w' := fun W hW hx hf =>
        hcontains2 (newerH ⟨x0, x1, x2⟩) (w.heap.size + 1) w.heap.size r W (hrA.stays hW) (fun W' y0 y1 y2 hb => by
          have hl := cell_lt hf
          simp only at hl
          exact newerH_any x0 x1 x2 y0 y1 y2 (w.heap.size + 1) w.heap.size W' (by have := hb.size; omega) (by have := hb.size; omega) ((hb.cell (p := ⟨w.heap.size, 0, none⟩) (by simp only; omega)).trans hx.c0) ((hb.cell (p := ⟨w.heap.size, 1, none⟩) (by simp only; omega)).trans hx.c1) ((hb.cell (p := ⟨w.heap.size, 2, none⟩) (by simp only; omega)).trans hx.c2) ((hb.cell (p := ⟨w.heap.size + 1, 0, none⟩) hl).trans hf))
      have Hcont := hid hcont
      clear hcont
      go_wp2_with fail
      refine (Hcont.out _ (by (repeat (first | with_reducible exact Below.refl _ _ | with_reducible assumption | (with_reducible refine Below.drew ?_) | (with_reducible refine Below.manyDrew ?_ _) | ((with_reducible refine Below.alloc ?_ ?_ _); rotate_left; (focus (first | omega | (dsimp only; omega) | (simp; done) | (simp; omega)))) | ((with_reducible refine Below.setCell ?_ ?_ _); rotate_left; (focus (first | omega | (dsimp only; omega) | (simp; done) | (simp; omega)))) | ((with_reducible refine Below.step ?_ (by assumption) ?_); rotate_left; (focus (first | omega | (dsimp only; omega) | (simp; done) | (simp; omega))))))) ?_ ?_).mono ?_
      · exact ⟨by go_simp, by go_simp, by go_simp⟩
      · go_simp
      · rcases hany : r.xs.any (newerH ⟨x0, x1, x2⟩) with _ | _
        · have Hany := hid hany
          clear hany
          rintro e w1 ⟨rfl, hb1⟩
          obtain ⟨hc1, hf1⟩ := bcell hb1
          have hz1 := hb1.size
          simp only [World.size_alloc] at hz1
          have hF1 : Below w.heap.size w w1 := by (repeat (first | with_reducible exact Below.refl _ _ | with_reducible assumption | (with_reducible refine Below.drew ?_) | (with_reducible refine Below.manyDrew ?_ _) | ((with_reducible refine Below.alloc ?_ ?_ _); rotate_left; (focus (first | omega | (dsimp only; omega) | (simp; done) | (simp; omega)))) | ((with_reducible refine Below.setCell ?_ ?_ _); rotate_left; (focus (first | omega | (dsimp only; omega) | (simp; done) | (simp; omega)))) | ((with_reducible refine Below.step ?_ (by assumption) ?_); rotate_left; (focus (first | omega | (dsimp only; omega) | (simp; done) | (simp; omega))))))
          have hx0 : w1.cell? ⟨w.heap.size, 0, none⟩ = some (.int .i64 x0) := (hc1 _ _ (by simp; omega)).trans (by go_simp)
          have hx1 : w1.cell? ⟨w.heap.size, 1, none⟩ = some (.int .i64 x1) := (hc1 _ _ (by simp; omega)).trans (by go_simp)
          have hx2 : w1.cell? ⟨w.heap.size, 2, none⟩ = some (.int .i64 x2) := (hc1 _ _ (by simp; omega)).trans (by go_simp)
          have hal : w1.cell? ⟨w.heap.size + 1, 0, none⟩ = some (.func (.func 11) #[] #[.pointer (some ⟨w.heap.size, 0, none⟩)]) := (hc1 _ _ (by simp)).trans (by go_simp)
          have hO1 := Ho.out.belowS hF1
          have hB1 := hO1.1
          have hall1 : w1.cell? ⟨h, 0, none⟩ = some (.slice r.A r.xs.length r.c) := hB1.cell 0
          have hfz1 : w1.frozen? ⟨h, 0, none⟩ = false := hB1.frozen 0
          have hfoot : ∀ g, foot (.slice r.A r.xs.length r.c) = some g → g < w.heap.size := fun g hg => (Ho.out.2.1.lt hg).2
          have hnh : ¬ some h = foot (.slice r.A r.xs.length r.c) := fun e => Hnf.out e.symm
          have hnq : ¬ some w1.heap.size = foot (.slice r.A r.xs.length r.c) := fun e => by have := hfoot _ e.symm; omega
          have hwl : w.heap.size < w1.heap.size := by omega
          have hwl1 : w.heap.size + 1 < w1.heap.size := by omega
          have hwl2 : h < w1.heap.size := by omega
          have hnx : ¬ some w.heap.size = foot (.slice r.A r.xs.length r.c) := fun e => by have := hfoot _ e.symm; omega
          have hdel : ∀ W, Below w1.heap.size w1 W → Calls Try.prog 14 #[.slice r.A r.xs.length r.c, .func (.func 11) #[] #[.pointer (some ⟨w.heap.size, 0, none⟩)]] W fun e w' => ∃ v', e = .returned v' ∧ Ow H.cells 3 base 29 w' v' (r.xs.filter (unlikeH ⟨x0, x1, x2⟩)) ∧ foot v' = foot (.slice r.A r.xs.length r.c) ∧ Fr (fun k => some k = foot (.slice r.A r.xs.length r.c)) W w' := fun W hW =>
            hdel_any x0 x1 x2 w.heap.size base _ r.xs W (hO1.2.1.belowS hW) (by have := hW.size; omega) ((hW.cell (p := ⟨w.heap.size, 0, none⟩) (by simp only; omega)).trans hx0) ((hW.cell (p := ⟨w.heap.size, 1, none⟩) (by simp only; omega)).trans hx1) (fun e => by have := hfoot _ e; omega) hg (by omega) (by have := hW.size; omega)
          have Hdel := hid hdel
          have HO1 := hid hO1
          have HB1 := hid hB1
          have Hfoot := hid hfoot
          have hfl := List.length_filter_le (unlikeH ⟨x0, x1, x2⟩) r.xs
          clear hdel hO1 hB1 hfoot hc1 hf1 hb1
          generalize hL : r.xs.filter (unlikeH ⟨x0, x1, x2⟩) = L at *
          have HL : Hid (putL r.xs ⟨x0, x1, x2⟩ = L ++ [⟨x0, x1, x2⟩]) := hid (by rw [putL, hL])
          clear hL
          go_wp2_with fail
          go_cut [] (fun wx => ∃ v8, HintsO base wx h v8 (L ++ [⟨x0, x1, x2⟩]) lost ∧ (foot v8 = foot (.slice r.A r.xs.length r.c) ∨ ∃ k, foot v8 = some k ∧ w.heap.size ≤ k) ∧ Fr (fun k => k = h ∨ some k = foot (.slice r.A r.xs.length r.c)) w1 wx)
          case first =>
            go_region_law (first | (refine appHat _ base v9 L x0 x1 x2 w1.heap.size ?_ hO9 rfl _ _ rfl rfl rfl ?_ ?_ ?_; (focus exact HAt.of_blk ((Blk.new w1 _ _).drew.fr hF9 hnq)); (focus omega); (focus (have := hF9.size; simp at this; omega)); intro v8 w8 h8 f8 o8; have hFF : Fr (fun k => some k = foot (.slice r.A r.xs.length r.c)) w1 w8 := (((Fr.refl _ _).alloc _).drew.step hF9).step (f8.mono (fun i _ hi => by rw [hi, hf9])); have o8' : foot v8 = foot (.slice r.A r.xs.length r.c) ∨ ∃ k, foot v8 = some k ∧ w.heap.size ≤ k := o8.imp (fun o => o.trans hf9) (fun o => ⟨_, o, by have := hF9.size; simp at this ⊢; omega⟩); obtain ⟨A8, c8, hv8, p8, q8, _⟩ := h8.form; rw [List.length_append, List.length_singleton] at hv8; subst hv8; have hB8 : Blk w8 h _ _ := ((HB1.out.alloc _).drew.fr hF9 hnh).fr f8 (by rw [hf9]; exact hnh); have hc8 : w8.cell? ⟨h, 0, none⟩ = _ := hB8.cell 0; have hz8 := hB8.frozen 0) | (refine appHat _ base v9 L x0 x1 x2 w9.heap.size ?_ (hO9.alloc _) rfl _ _ rfl rfl rfl ?_ ?_ ?_; (focus exact HAt.of_blk (Blk.new w9 _ _)); (focus omega); (focus (have := hF9.size; simp at this ⊢; omega)); intro v8 w8 h8 f8 o8; have hFF : Fr (fun k => some k = foot (.slice r.A r.xs.length r.c)) w1 w8 := (((Fr.refl _ _).drew.step hF9).alloc _).step (f8.mono (fun i _ hi => by rw [hi, hf9])); have o8' : foot v8 = foot (.slice r.A r.xs.length r.c) ∨ ∃ k, foot v8 = some k ∧ w.heap.size ≤ k := o8.imp (fun o => o.trans hf9) (fun o => ⟨_, o, by have := hF9.size; simp at this ⊢; omega⟩); obtain ⟨A8, c8, hv8, p8, q8, _⟩ := h8.form; rw [List.length_append, List.length_singleton] at hv8; subst hv8; have hB8 : Blk w8 h _ _ := ((HB1.out.drew.fr hF9 hnh).alloc _).fr f8 (by rw [hf9]; exact hnh); have hc8 : w8.cell? ⟨h, 0, none⟩ = _ := hB8.cell 0; have hz8 := hB8.frozen 0) | (go_simp; go_at_call 14; refine (Hdel.out _ (by (repeat (first | with_reducible exact Below.refl _ _ | with_reducible assumption | (with_reducible refine Below.drew ?_) | (with_reducible refine Below.manyDrew ?_ _) | ((with_reducible refine Below.alloc ?_ ?_ _); rotate_left; (focus (first | omega | (dsimp only; omega) | (simp; done) | (simp; omega)))) | ((with_reducible refine Below.setCell ?_ ?_ _); rotate_left; (focus (first | omega | (dsimp only; omega) | (simp; done) | (simp; omega)))) | ((with_reducible refine Below.step ?_ (by assumption) ?_); rotate_left; (focus (first | omega | (dsimp only; omega) | (simp; done) | (simp; omega)))))))).mono ?_; rintro e w9 ⟨v9, rfl, hO9, hf9, hF9⟩; have hy0 : w9.cell? ⟨w.heap.size, 0, none⟩ = some (.int .i64 x0) := (hF9.cell (p := ⟨w.heap.size, 0, none⟩) (by simp; omega) hnx).trans (by first | exact hx0 | exact (World.cell?_alloc_lt w1 _ ⟨w.heap.size, 0, none⟩ hwl).trans hx0); have hy1 : w9.cell? ⟨w.heap.size, 1, none⟩ = some (.int .i64 x1) := (hF9.cell (p := ⟨w.heap.size, 1, none⟩) (by simp; omega) hnx).trans (by first | exact hx1 | exact (World.cell?_alloc_lt w1 _ ⟨w.heap.size, 1, none⟩ hwl).trans hx1); have hy2 : w9.cell? ⟨w.heap.size, 2, none⟩ = some (.int .i64 x2) := (hF9.cell (p := ⟨w.heap.size, 2, none⟩) (by simp; omega) hnx).trans (by first | exact hx2 | exact (World.cell?_alloc_lt w1 _ ⟨w.heap.size, 2, none⟩ hwl).trans hx2)))
            all_goals
              go_wp2_with fail
              go_meet
              refine ⟨_, ⟨hB8.put 0 _, h8.fr ((Fr.refl (fun k => k = h) _).setCell (.inl rfl) _) (fun g hg e => ?_), fun e => ?_, hbh⟩, o8', (hFF.mono (fun _ _ hi => .inr hi)).setCell (.inl (.inl rfl)) _⟩
              · rcases o8' with o | ⟨k, o, hk⟩
                · exact hnh (by rw [← o, hg, e])
                · rw [hg] at o; cases o; omega
              · rcases o8' with o | ⟨k, o, hk⟩
                · exact hnh (by rw [← o, e])
                · rw [e] at o; cases o; omega
          case rest =>
            obtain ⟨v8, hO8, hfo8, hF8⟩ := hcut
            have hml : (L ++ [(⟨x0, x1, x2⟩ : H)]).length ≤ 11 := by rw [List.length_append, List.length_singleton]; omega
            generalize L ++ [(⟨x0, x1, x2⟩ : H)] = M at *
            obtain ⟨A8, c8, rfl, p8, q8, hform⟩ := hO8.2.1.form
            have hFw : Fr (fun k => k = h ∨ some k = foot (.slice r.A r.xs.length r.c)) w wc := (Fr.ofB hF1).step hF8
            have hB8 := hO8.1
            have hall8 : wc.cell? ⟨h, 0, none⟩ = some (.slice A8 M.length c8) := hB8.cell 0
            have hlost8 : wc.cell? ⟨h, 1, none⟩ = some (.int .i64 lost) := hB8.cell 1
            have hz80 := hB8.frozen 0
            have hz81 := hB8.frozen 1
            have HO8 := hid hO8
            have HB8 := hid hB8
            have Hfo8 := hid hfo8
            unfold maxLen at q8
            clear hO8 hB8 hfo8 hx0 hx1 hx2 hal hall1 hfz1 hall
            by_cases hgt : 10 < M.length
            · obtain ⟨g, off, rfl, hbg, hgl, hfo, _⟩ := hform (by omega)
              have Hform := hid hfo
              have hgt' : (10 : Int) < (M.length : Int) := by omega
              have hc81 : ¬ c8 = 1 := by omega
              have h1m : (1 : Int) ≤ (M.length : Int) := by omega
              have h1m' : 1 ≤ M.length := by omega
              have h1c' : 1 ≤ c8 := by omega
              clear hform hfo
              go_wp2_with fail
              go_ret
              have hdr := HO8.out.2.1.drop (k := 1) (by omega)
              have hfeq : foot (.slice (some ⟨g, off + 1 * 3, none⟩) (M.length - 1) (c8 - 1)) = some g := foot_some (by omega)
              have hgh : g ≠ h := fun e => HO8.out.2.2.1 (by rw [Hform.out, e])
              refine ⟨.slice (some ⟨g, off + 1 * 3, none⟩) (M.length - 1) (c8 - 1), ?_, ⟨?_, ?_, ?_, hbh⟩, ?_, ((hFw.setCell (.inl (.inl rfl)) _).setCell (.inl (.inl rfl)) _)⟩
              · rw [addE, if_pos Hok.out]; rfl
              · rw [addN, if_pos Hok.out, if_neg (by rw [Hany.out]; decide), HL.out, if_pos hgt]
                exact (HB8.out.put 0 _).put 1 _
              · rw [addL, if_pos Hok.out, if_neg (by rw [Hany.out]; decide), HL.out, if_pos hgt]
                exact hdr.fr (((Fr.refl (fun k => k = h) _).setCell (p := ⟨h, 0, none⟩) (.inl rfl) _).setCell (p := ⟨h, 1, none⟩) (.inl rfl) _) (fun k hk e => hgh (by rw [hfeq] at hk; cases hk; exact e))
              · exact fun e => hgh (by rw [hfeq] at e; cases e; rfl)
              · rcases Hfo8.out with o | ⟨k, o, hk⟩
                · exact .inl (by rw [← o, Hform.out]; exact hfeq)
                · exact .inr ⟨k, by rw [← o, Hform.out]; exact hfeq, hk⟩
            · have hgt' : ¬ (10 : Int) < (M.length : Int) := by omega
              clear hform
              go_wp2_with fail
              go_ret
              first | refine ⟨?_, .slice A8 M.length c8, ?_, Hfo8.out, hFw⟩ | refine ⟨.slice A8 M.length c8, ?_, ?_, Hfo8.out, hFw⟩
              · rw [addE, if_pos Hok.out]; rfl
              · have e1 : addL r.xs ⟨x0, x1, x2⟩ = M := by rw [addL, if_pos Hok.out, if_neg (by rw [Hany.out]; decide), HL.out, if_neg hgt]
                have e2 : addN r.xs lost ⟨x0, x1, x2⟩ = lost := by rw [addN, if_pos Hok.out, if_neg (by rw [Hany.out]; decide), HL.out, if_neg hgt]
                rw [e1, e2]
                exact HO8.out
        · have Hany := hid hany
          clear hany
          rintro e w1 ⟨rfl, hb1⟩
          go_wp2_with fail
          go_ret
          have hF1 : Below w.heap.size w w1 := by
            have hz1 := hb1.size
            (repeat (first | with_reducible exact Below.refl _ _ | with_reducible assumption | (with_reducible refine Below.drew ?_) | (with_reducible refine Below.manyDrew ?_ _) | ((with_reducible refine Below.alloc ?_ ?_ _); rotate_left; (focus (first | omega | (dsimp only; omega) | (simp; done) | (simp; omega)))) | ((with_reducible refine Below.setCell ?_ ?_ _); rotate_left; (focus (first | omega | (dsimp only; omega) | (simp; done) | (simp; omega)))) | ((with_reducible refine Below.step ?_ (by assumption) ?_); rotate_left; (focus (first | omega | (dsimp only; omega) | (simp; done) | (simp; omega))))))
          refine ⟨_, ?_, ?_, .inl rfl, ?_⟩
          · rw [addE, if_pos Hok.out]; rfl
          · rw [addL, addN, if_pos Hok.out, if_pos Hok.out, if_pos Hany.out, if_pos Hany.out]
            exact Ho.out.belowS hF1
          · exact Fr.ofB hF1
end Go.Proofs.Ytjhphagcmiggdaa
