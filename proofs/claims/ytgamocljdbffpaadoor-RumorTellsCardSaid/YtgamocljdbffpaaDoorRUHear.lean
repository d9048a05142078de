/-
  CONTRACT of the reference mereref2.Hear. CONDITIONS: none.
-/
import Derived.Test.YtgamocljdbffpaaDoorRUView
namespace Go.Proofs.YtgamocljdbffpaaDoor
open Go.RowKit
open Go.ChangeShapes Go.WideShapes Go.ChangeAt

/-- the loop of Hear behind any rumor: put already, or not yet -/
def rugo (m : M) : Bool → List U → List U
  | p, [] => if p = true then [] else [U.of m]
  | p, x :: r => if x.node = m.node then U.of m :: rugo m true r else if m.node < x.node ∧ p = false then U.of m :: x :: rugo m true r else x :: rugo m p r
theorem rugo_true : ∀ {l : List U} (m : M), (∀ x ∈ l, x.node ≠ m.node) → rugo m true l = l
  | [], m, _ => by rw [rugo, if_pos rfl]
  | x :: r, m, h => by
    rw [rugo, if_neg (h x (by simp)), if_neg (by simp), rugo_true m (fun y hy => h y (by simp [hy]))]
theorem uhas_plc {l : List U} {m : M} (h : UAsc l) : (∀ x ∈ l, x.node = m.node → vhas m.node (um l) = true ∧ l.getD (vplc m.node (um l)) U.zero = x) ∧ ((∀ x ∈ l, x.node ≠ m.node) → vhas m.node (um l) = false) := by
  constructor
  · intro x hx hn
    obtain ⟨i, hi, rfl⟩ := List.getElem_of_mem hx
    have hp := List.pairwise_iff_getElem.1 h
    have he : vplc m.node (um l) = i := vplc_eq (um l) i (by rw [um_length]; omega) (fun t ht => by
      rw [um_getD, getD_get U.zero (by omega)]
      have := hp t i (by omega) hi ht
      show l[t].node < m.node
      omega) (fun _ => by
      rw [um_getD, getD_get U.zero hi]
      show m.node ≤ l[i].node
      omega)
    refine ⟨?_, by rw [he, getD_get U.zero hi]⟩
    unfold vhas
    rw [he, um_length, um_getD, getD_get U.zero hi]
    simp only [Bool.and_eq_true, decide_eq_true_eq]
    exact ⟨hi, hn⟩
  · intro hno
    rw [← Bool.not_eq_true]
    intro hh
    unfold vhas at hh
    rw [um_length, um_getD] at hh
    simp only [Bool.and_eq_true, decide_eq_true_eq] at hh
    exact hno _ (getD_memD U.zero hh.1) hh.2
theorem rugo_put : ∀ {l : List U} (m : M), UAsc l → rugo m false l = if vhas m.node (um l) = true then l.set (vplc m.node (um l)) (U.of m) else l.take (vplc m.node (um l)) ++ U.of m :: l.drop (vplc m.node (um l))
  | [], m, _ => by rw [rugo, if_neg (by decide)]; rfl
  | x :: r, m, h => by
    obtain ⟨h1, h2⟩ := List.pairwise_cons.1 h
    have ih := rugo_put m h2
    rw [rugo]
    by_cases he : x.node = m.node
    · have hp : vplc m.node (um (x :: r)) = 0 := by
        show (if x.mem.node < m.node then _ else 0) = 0
        exact if_neg (by show ¬ x.node < m.node; omega)
      have hh := ((uhas_plc (m := m) h).1 x (by simp) he).1
      rw [if_pos he, rugo_true m (fun y hy => by have := h1 y hy; omega), if_pos hh, hp]
      rfl
    · rw [if_neg he]
      by_cases hlt : m.node < x.node
      · have hp : vplc m.node (um (x :: r)) = 0 := by
          show (if x.mem.node < m.node then _ else 0) = 0
          exact if_neg (by show ¬ x.node < m.node; omega)
        have hh := (uhas_plc (m := m) h).2 (fun y hy => by
          rcases List.mem_cons.1 hy with rfl | hy
          · omega
          · have := h1 y hy; omega)
        rw [if_pos ⟨hlt, rfl⟩, rugo_true m (fun y hy => by have := h1 y hy; omega), hh, if_neg (by decide), hp]
        rfl
      · have hp : vplc m.node (um (x :: r)) = vplc m.node (um r) + 1 := by
          show (if x.mem.node < m.node then vplc m.node (um r) + 1 else 0) = _
          exact if_pos (by show x.node < m.node; omega)
        have hh : vhas m.node (um (x :: r)) = vhas m.node (um r) := by
          unfold vhas
          rw [hp]
          simp [um]
        rw [if_neg (by simp [hlt]), ih, hh, hp]
        by_cases hb : vhas m.node (um r) = true
        · rw [if_pos hb, if_pos hb]; rfl
        · rw [if_neg hb, if_neg hb]; rfl
/-- what Hear tells: a row that stands, and whether it is another one -/
def RURes (w : World) (r : List U × Bool) (e : Ending) (w' : World) : Prop :=
  ∃ q : SlV U, e = .returned (.tuple #[.slice q.A q.xs.length q.c, .bool r.2]) ∧ q.xs = r.1 ∧ UsAt w' q ∧ Below w.heap.size w w'
theorem addU_up {l : List U} {m : M} (hl : chkU l = 0) (h : ∀ x ∈ l, x.node = m.node → aboveB m x.mem = true) : addU l m = (rugo m false l, true) := by
  have ha := uasc_of hl
  rw [rugo_put m ha]
  unfold addU
  rcases hh : vhas m.node (um l) with _ | _
  · rw [if_neg (by decide), if_neg (by decide)]
  · rw [if_pos rfl, if_pos rfl]
    have hp : vplc m.node (um l) < l.length ∧ (l.getD (vplc m.node (um l)) U.zero).node = m.node := by
      unfold vhas at hh
      rw [um_length, um_getD] at hh
      simp only [Bool.and_eq_true, decide_eq_true_eq] at hh
      exact hh
    rw [if_pos (h _ (getD_memD U.zero hp.1) hp.2)]
theorem addU_no {l : List U} {m : M} {x : U} (hl : chkU l = 0) (hx : x ∈ l) (hn : x.node = m.node) (h : aboveB m x.mem = false) : addU l m = (l, false) := by
  obtain ⟨h1, h2⟩ := (uhas_plc (m := m) (uasc_of hl)).1 x hx hn
  unfold addU
  rw [if_pos h1, h2, if_neg (by rw [h]; decide)]
theorem URow.of_ow {base : Nat} {w : World} {v : Value} {l : List U} (h : Ow U.cells 4 base 98 w v l) (hg : ∀ x ∈ l, x.good) : ∃ q : SlV U, v = .slice q.A q.xs.length q.c ∧ q.xs = l ∧ UsAt w q := by
  obtain ⟨r, h1, h2, h3, _, _⟩ := UsAt.of_ow h hg
  exact ⟨r, h1, h2, h3⟩

set_option maxHeartbeats 16000000 in
set_option maxRecDepth 100000 in
theorem rhear_any (s : SlV U) (x0 x1 x2 : Int) (w : World) (hs : UsAt w s) (hv : chkU s.xs = 0) (hr : rightB ⟨x0, x1, x2⟩ = true) :
    Calls Tryd.prog 28 #[.slice s.A s.xs.length s.c, .agg #[.int .i64 x0, .int .i64 x1, .int .i64 x2]] w (RURes w (addU s.xs ⟨x0, x1, x2⟩)) := by
  have HS := hid (fun W (hW : Below w.heap.size w W) => hs.stays hW)
  have hn6 : s.xs.length ≤ 6 := by
    have := (vval_facts (uval_iff.1 hv).1).2.2
    rw [um_length] at this
    exact this
  have HX0 := hid (Blk.new w 52 #[.int .i64 x0, .int .i64 x1, .int .i64 x2])
  have Hgood := hid (uval_good (addU_ok hv hr))
  have Hv := hid hv
  generalize hR : addU s.xs ⟨x0, x1, x2⟩ = R at *
  have HR := hid hR
  clear hs hv hr hR
  go_enter Tryd.func28, Tryd.ntmps28
  go_wp2_with fail
  go_loopw [6, 7, 8] (fun u pv i wr => ∃ (k : Nat) (l' : List U) (p : Bool), k ≤ s.xs.length ∧ i = .int .i64 k ∧ pv = .bool p ∧ (p = false → l'.length ≤ k) ∧ l'.length ≤ k + 1 ∧ l' ++ rugo ⟨x0, x1, x2⟩ p (s.xs.drop k) = rugo ⟨x0, x1, x2⟩ false s.xs ∧ (∀ x ∈ s.xs.take k, x.node = x0 → aboveB ⟨x0, x1, x2⟩ x.mem = true) ∧ Ow U.cells 4 (w.heap.size + 1) 98 wr u l' ∧ Blk wr w.heap.size 52 #[.int .i64 x0, .int .i64 x1, .int .i64 x2] ∧ Below w.heap.size w wr) (fun _ _ i _ => s.xs.length - (intOf i).toNat)
  case atStart => exact ⟨0, [], false, Nat.zero_le _, rfl, rfl, by simp, by simp, rfl, by simp, Ow.nil _ _ _ _ _, HX0.out, by (repeat (first | with_reducible exact Below.refl _ _ | with_reducible assumption | (with_reducible refine Below.drew ?_) | (with_reducible refine Below.manyDrew ?_ _) | ((with_reducible refine Below.alloc ?_ ?_ _); rotate_left; (focus (first | omega | (dsimp only; omega) | (simp; done) | (simp; omega)))) | ((with_reducible refine Below.setCell ?_ ?_ _); rotate_left; (focus (first | omega | (dsimp only; omega) | (simp; done) | (simp; omega)))) | ((with_reducible refine Below.step ?_ (by assumption) ?_); rotate_left; (focus (first | omega | (dsimp only; omega) | (simp; done) | (simp; omega))))))⟩
  case round =>
    obtain ⟨k, l', p, hk, rfl, rfl, hpl, hll, hRk, hab, hOw, hB, hb⟩ := hrel
    have hz0 := hb.size
    have hzB := hB.lt
    have HO := hid hOw
    have HBx := hid hB
    have HGe := hid hOw.ge
    have c0 : wr.cell? ⟨w.heap.size, 0, none⟩ = some (.int .i64 x0) := hB.cell 0
    have c1 : wr.cell? ⟨w.heap.size, 1, none⟩ = some (.int .i64 x1) := hB.cell 1
    have c2 : wr.cell? ⟨w.heap.size, 2, none⟩ = some (.int .i64 x2) := hB.cell 2
    have Hab := hid hab
    have Hbb := hid hb
    clear hB hOw hab
    by_cases hlt : k < s.xs.length
    · obtain ⟨g, off, hA, hgl, hcells⟩ := (HS.out _ hb).row (by omega)
      obtain ⟨k0, k1, k2, k3⟩ := hcells k hlt
      have htk := take_snocD U.zero hlt
      have hmem := getD_memD U.zero hlt
      rw [drop_consD U.zero hlt, rugo] at hRk
      generalize s.xs.getD k U.zero = y at *
      obtain ⟨y0, y1, y2, y3⟩ := y
      simp only at k0 k1 k2 k3 hRk
      have Htk := hid htk
      have Hmem := hid hmem
      have HA := hid hA
      rw [hA]
      clear hA hcells htk hmem
      by_cases heq : y0 = x0
      · rw [if_pos heq] at hRk
        have Heq := hid heq
        have HNw := hid (rnewer_any x0 x1 x2 y0 y1 y2)
        have HRk := hid hRk
        have heb : (y0 == x0) = true := by rw [beq_iff_eq]; exact heq
        clear hRk heq
        have hbnow := HNw
        obtain ⟨bb, hbb⟩ : ∃ bb, aboveB ⟨x0, x1, x2⟩ ⟨y0, y1, y2⟩ = bb := ⟨_, rfl⟩
        rw [hbb] at HNw
        have Hbbq := hid hbb
        clear hbb hbnow
        go_wp2_with fail
        go_quiet (fail)
        go_upto_region 7 with fail
        have hgw : g < wr.heap.size := hgl
        go_cut [9] (fun t wx => t = .bool bb ∧ Below wr.heap.size wr wx)
        case first =>
          go_region_law (first | (go_simp; go_at_call 18; refine (HNw.out _).mono ?_; rintro e wj ⟨rfl, hbj⟩; obtain ⟨hcj, hfj⟩ := bcell hbj; have hzj := hbj.size; (try simp only [World.size_alloc] at hzj)))
          all_goals
            go_wp2_with fail
            go_meet
            exact ⟨rfl, by (repeat (first | with_reducible exact Below.refl _ _ | with_reducible assumption | (with_reducible refine Below.drew ?_) | (with_reducible refine Below.manyDrew ?_ _) | ((with_reducible refine Below.alloc ?_ ?_ _); rotate_left; (focus (first | omega | (dsimp only; omega) | (simp; done) | (simp; omega)))) | ((with_reducible refine Below.setCell ?_ ?_ _); rotate_left; (focus (first | omega | (dsimp only; omega) | (simp; done) | (simp; omega)))) | ((with_reducible refine Below.step ?_ (by assumption) ?_); rotate_left; (focus (first | omega | (dsimp only; omega) | (simp; done) | (simp; omega))))))⟩
        case rest =>
        obtain ⟨rfl, hb9⟩ := hcut
        have Hb9 := hid (Below.step Hbb.out hb9 hz0)
        have hz9 := Hb9.out.size
        have hB9 := HBx.out.belowS hb9
        have HB9 := hid hB9
        have HO9 := hid (HO.out.belowS hb9)
        have e0 : wc.cell? ⟨w.heap.size, 0, none⟩ = some (.int .i64 x0) := hB9.cell 0
        have e1 : wc.cell? ⟨w.heap.size, 1, none⟩ = some (.int .i64 x1) := hB9.cell 1
        have e2 : wc.cell? ⟨w.heap.size, 2, none⟩ = some (.int .i64 x2) := hB9.cell 2
        have hl9 := hB9.lt
        clear hb9 hB9 c0 c1 c2 k0 k1 k2 k3
        rcases bb with _ | _
        · have hno := addU_no (m := ⟨x0, x1, x2⟩) Hv.out Hmem.out Heq.out Hbbq.out
          rw [HR.out] at hno
          have Hno := hid hno
          clear hno
          rw [← HA.out]
          go_wp2_with fail
          go_ret2
          rw [Hno.out]
          exact ⟨s, rfl, rfl, HS.out _ Hb9.out, Hb9.out⟩
        · go_wp2_with (at_builtin; refine appU _ (w.heap.size + 1) _ l' x0 x1 x2 0 HO9.out rfl _ _ rfl rfl rfl ?_ ?_ ?_ ?_)
          all_goals try (first | omega | (simp; done) | (simp; omega))
          intro v8 w8 h8 f8 o8
          have hB8 := HB9.out.fr f8 (fun h => by have := HGe.out _ h; omega)
          have hb8 := Hb9.out.trans (f8.below0 (B := w.heap.size) hz9 (fun i hi => by have := HGe.out _ hi; omega))
          go_wp2_with fail
          go_roundw
          case rel =>
            refine ⟨k + 1, l' ++ [⟨x0, x1, x2, 0⟩], true, by omega, by go_num, rfl, (fun h => by cases h), by simp; omega, by rw [List.append_assoc]; exact HRk.out, fun x hx hxn => ?_, h8, hB8, hb8⟩
            rw [Htk.out] at hx
            rcases List.mem_append.1 hx with hx | hx
            · exact Hab.out x hx hxn
            · rw [List.mem_singleton.1 hx]; exact Hbbq.out
          case measure => simp [intOf]; omega
      · rw [if_neg heq] at hRk
        have Heq := hid heq
        have heb : (y0 == x0) = false := by rw [beq_eq_false_iff_ne]; exact heq
        have HabN := hid (show ∀ x ∈ s.xs.take (k + 1), x.node = x0 → aboveB ⟨x0, x1, x2⟩ x.mem = true from fun x hx hxn => by
          rw [Htk.out] at hx
          rcases List.mem_append.1 hx with hx | hx
          · exact Hab.out x hx hxn
          · rw [List.mem_singleton.1 hx] at hxn
            exact absurd hxn Heq.out)
        clear heq
        by_cases hq : x0 < y0 ∧ p = false
        · rw [if_pos hq] at hRk
          obtain ⟨hq1, rfl⟩ := hq
          have HRk := hid hRk
          clear hRk
          go_wp2_with fail
          go_quiet (fail)
          go_wp2_with fail
          go_quiet (fail)
          go_wp2_with (at_builtin; refine appU _ (w.heap.size + 1) _ l' x0 x1 x2 0 (HO.out.belowS (by (repeat (first | with_reducible exact Below.refl _ _ | with_reducible assumption | (with_reducible refine Below.drew ?_) | (with_reducible refine Below.manyDrew ?_ _) | ((with_reducible refine Below.alloc ?_ ?_ _); rotate_left; (focus (first | omega | (dsimp only; omega) | (simp; done) | (simp; omega)))) | ((with_reducible refine Below.setCell ?_ ?_ _); rotate_left; (focus (first | omega | (dsimp only; omega) | (simp; done) | (simp; omega)))) | ((with_reducible refine Below.step ?_ (by assumption) ?_); rotate_left; (focus (first | omega | (dsimp only; omega) | (simp; done) | (simp; omega)))))))) rfl _ _ rfl rfl rfl ?_ ?_ ?_ ?_)
          all_goals try (first | omega | (simp; done) | (simp; omega))
          intro v8 w8 h8 f8 o8
          have hB8 := (HBx.out.belowS (w' := _) (by (repeat (first | with_reducible exact Below.refl _ _ | with_reducible assumption | (with_reducible refine Below.drew ?_) | (with_reducible refine Below.manyDrew ?_ _) | ((with_reducible refine Below.alloc ?_ ?_ _); rotate_left; (focus (first | omega | (dsimp only; omega) | (simp; done) | (simp; omega)))) | ((with_reducible refine Below.setCell ?_ ?_ _); rotate_left; (focus (first | omega | (dsimp only; omega) | (simp; done) | (simp; omega)))) | ((with_reducible refine Below.step ?_ (by assumption) ?_); rotate_left; (focus (first | omega | (dsimp only; omega) | (simp; done) | (simp; omega)))))))).fr f8 (fun h => by have := HGe.out _ h; omega)
          have hb8 := (show Below w.heap.size w _ by (repeat (first | with_reducible exact Below.refl _ _ | with_reducible assumption | (with_reducible refine Below.drew ?_) | (with_reducible refine Below.manyDrew ?_ _) | ((with_reducible refine Below.alloc ?_ ?_ _); rotate_left; (focus (first | omega | (dsimp only; omega) | (simp; done) | (simp; omega)))) | ((with_reducible refine Below.setCell ?_ ?_ _); rotate_left; (focus (first | omega | (dsimp only; omega) | (simp; done) | (simp; omega)))) | ((with_reducible refine Below.step ?_ (by assumption) ?_); rotate_left; (focus (first | omega | (dsimp only; omega) | (simp; done) | (simp; omega))))))).trans (f8.below0 (B := w.heap.size) (by simp; omega) (fun i hi => by have := HGe.out _ hi; omega))
          have hz8 := hb8.size
          have hl8 := hB8.lt
          obtain ⟨g3, off3, hA3, hgl3, hcells3⟩ := (HS.out _ hb8).row (by omega)
          have hA4 : g3 = g ∧ off3 = off := by
            have := HA.out.symm.trans hA3
            simp at this
            exact ⟨this.1.symm, this.2.symm⟩
          obtain ⟨rfl, rfl⟩ := hA4
          obtain ⟨m0, m1, m2, m3⟩ := hcells3 k hlt
          have hyy : s.xs.getD k U.zero = ⟨y0, y1, y2, y3⟩ := by
            have h5 := Htk.out
            rw [take_snocD U.zero hlt] at h5
            simpa using List.append_cancel_left h5
          rw [hyy] at m0 m1 m2 m3
          simp only at m0 m1 m2 m3
          have H8 := hid h8
          have HB8 := hid hB8
          have HGe8 := hid h8.ge
          clear h8 hB8 f8 hcells3 hA3 hyy
          go_wp2_with (at_builtin; refine appU _ (w.heap.size + 1) _ (l' ++ [⟨x0, x1, x2, 0⟩]) y0 y1 y2 y3 (H8.out.belowS (by (repeat (first | with_reducible exact Below.refl _ _ | with_reducible assumption | (with_reducible refine Below.drew ?_) | (with_reducible refine Below.manyDrew ?_ _) | ((with_reducible refine Below.alloc ?_ ?_ _); rotate_left; (focus (first | omega | (dsimp only; omega) | (simp; done) | (simp; omega)))) | ((with_reducible refine Below.setCell ?_ ?_ _); rotate_left; (focus (first | omega | (dsimp only; omega) | (simp; done) | (simp; omega)))) | ((with_reducible refine Below.step ?_ (by assumption) ?_); rotate_left; (focus (first | omega | (dsimp only; omega) | (simp; done) | (simp; omega)))))))) rfl _ _ rfl rfl rfl ?_ ?_ ?_ ?_)
          all_goals try (first | omega | (simp; done) | (simp; omega))
          intro v9 w9 h9 f9 o9
          have hB9 := HB8.out.fr f9 (fun h => by have := HGe8.out _ h; omega)
          have hb9 := hb8.trans (f9.below0 (B := w.heap.size) hz8 (fun i hi => by have := HGe8.out _ hi; omega))
          go_wp2_with fail
          go_roundw
          case rel => exact ⟨k + 1, l' ++ [⟨x0, x1, x2, 0⟩, ⟨y0, y1, y2, y3⟩], true, by omega, by go_num, rfl, (fun h => by cases h), by simp at hpl; simp; omega, by rw [List.append_assoc]; exact HRk.out, HabN.out, h9, hB9, hb9⟩
          case measure => simp [intOf]; omega
        · rw [if_neg hq] at hRk
          have HRk := hid hRk
          have hcase : ¬ x0 < y0 ∨ (x0 < y0 ∧ p = true) := by
            by_cases h : x0 < y0
            · exact .inr ⟨h, by cases p with | true => rfl | false => exact absurd ⟨h, rfl⟩ hq⟩
            · exact .inl h
          clear hRk hq
          have hcase2 : decide (x0 < y0) = false ∨ (decide (x0 < y0) = true ∧ p = true) := hcase.imp decide_eq_false (fun h => ⟨decide_eq_true h.1, h.2⟩)
          clear hcase
          rcases hcase2 with hlo | ⟨hlo, rfl⟩
          all_goals
            go_wp2_with fail
            go_quiet (fail)
            go_wp2_with fail
            go_quiet (fail)
            go_wp2_with (at_builtin; refine appU _ (w.heap.size + 1) _ l' y0 y1 y2 y3 (HO.out.belowS (by (repeat (first | with_reducible exact Below.refl _ _ | with_reducible assumption | (with_reducible refine Below.drew ?_) | (with_reducible refine Below.manyDrew ?_ _) | ((with_reducible refine Below.alloc ?_ ?_ _); rotate_left; (focus (first | omega | (dsimp only; omega) | (simp; done) | (simp; omega)))) | ((with_reducible refine Below.setCell ?_ ?_ _); rotate_left; (focus (first | omega | (dsimp only; omega) | (simp; done) | (simp; omega)))) | ((with_reducible refine Below.step ?_ (by assumption) ?_); rotate_left; (focus (first | omega | (dsimp only; omega) | (simp; done) | (simp; omega)))))))) rfl _ _ rfl rfl rfl ?_ ?_ ?_ ?_)
            all_goals try (first | omega | (simp; done) | (simp; omega))
            intro v8 w8 h8 f8 o8
            have hB8 := (HBx.out.belowS (w' := _) (by (repeat (first | with_reducible exact Below.refl _ _ | with_reducible assumption | (with_reducible refine Below.drew ?_) | (with_reducible refine Below.manyDrew ?_ _) | ((with_reducible refine Below.alloc ?_ ?_ _); rotate_left; (focus (first | omega | (dsimp only; omega) | (simp; done) | (simp; omega)))) | ((with_reducible refine Below.setCell ?_ ?_ _); rotate_left; (focus (first | omega | (dsimp only; omega) | (simp; done) | (simp; omega)))) | ((with_reducible refine Below.step ?_ (by assumption) ?_); rotate_left; (focus (first | omega | (dsimp only; omega) | (simp; done) | (simp; omega)))))))).fr f8 (fun h => by have := HGe.out _ h; omega)
            have hb8 := (show Below w.heap.size w _ by (repeat (first | with_reducible exact Below.refl _ _ | with_reducible assumption | (with_reducible refine Below.drew ?_) | (with_reducible refine Below.manyDrew ?_ _) | ((with_reducible refine Below.alloc ?_ ?_ _); rotate_left; (focus (first | omega | (dsimp only; omega) | (simp; done) | (simp; omega)))) | ((with_reducible refine Below.setCell ?_ ?_ _); rotate_left; (focus (first | omega | (dsimp only; omega) | (simp; done) | (simp; omega)))) | ((with_reducible refine Below.step ?_ (by assumption) ?_); rotate_left; (focus (first | omega | (dsimp only; omega) | (simp; done) | (simp; omega))))))).trans (f8.below0 (B := w.heap.size) (by simp; omega) (fun i hi => by have := HGe.out _ hi; omega))
            go_wp2_with fail
            go_roundw
            case rel => exact ⟨k + 1, l' ++ [⟨y0, y1, y2, y3⟩], _, by omega, by go_num, rfl, (fun h => by have := hpl h; simp; omega), by simp; omega, by rw [List.append_assoc]; exact HRk.out, HabN.out, h8, hB8, hb8⟩
            case measure => simp [intOf]; omega
    · obtain rfl : k = s.xs.length := by omega
      rw [List.drop_length, rugo] at hRk
      have hup := addU_up (m := ⟨x0, x1, x2⟩) Hv.out (by have := Hab.out; rw [List.take_length] at this; exact this)
      rw [HR.out] at hup
      have Hup := hid hup
      clear hup
      cases p with
      | true =>
        rw [if_pos rfl, List.append_nil] at hRk
        have Hl := hid hRk
        have Hg := hid (URow.of_ow HO.out (by have := Hgood.out; rw [Hup.out] at this; rw [Hl.out]; exact this))
        obtain ⟨q, rfl, hqx, hqA⟩ := Hg.out
        have Hqx := hid hqx
        have HqA := hid hqA
        clear hRk hqx hqA
        go_wp2_with fail
        go_ret2
        rw [Hup.out]
        exact ⟨q, rfl, by rw [Hqx.out, Hl.out], HqA.out, Hbb.out⟩
      | false =>
        rw [if_neg (by decide)] at hRk
        have Hl := hid (show l' ++ [(⟨x0, x1, x2, 0⟩ : U)] = rugo ⟨x0, x1, x2⟩ false s.xs from hRk)
        clear hRk
        go_wp2_with (at_builtin; refine appU _ (w.heap.size + 1) _ l' x0 x1 x2 0 HO.out rfl _ _ rfl rfl rfl ?_ ?_ ?_ ?_)
        all_goals try (first | omega | (simp; done) | (simp; omega))
        intro v8 w8 h8 f8 o8
        have hb8 := Hbb.out.trans (f8.below0 (B := w.heap.size) (by omega) (fun i hi => by have := HGe.out _ hi; omega))
        obtain ⟨q, rfl, hqx, hqA⟩ := URow.of_ow h8 (by have := Hgood.out; rw [Hup.out] at this; rw [Hl.out]; exact this)
        have Hqx := hid hqx
        have HqA := hid hqA
        clear hqx hqA
        go_wp2_with fail
        go_ret2
        rw [Hup.out]
        exact ⟨q, rfl, by rw [Hqx.out, Hl.out], HqA.out, hb8⟩
end Go.Proofs.YtgamocljdbffpaaDoor
