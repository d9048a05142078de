/-
  CONTRACT of tomb.Sweep. CONDITIONS: none.
-/
import Derived.Test.YthjbebngedajiaaDoorTomb
import Derived.Laws.OwnMore
import Derived.Deep.AppendLies
import Derived.Maps.AppendAt
namespace Go.Proofs.YthjbebngedajiaaDoor
open Go.RowKit
open Go.ChangeShapes Go.WideShapes Go.ChangeAt

/-- rows of unlike elements lie in unlike blocks: what one grows by leaves the other -/
theorem ownsRow_keep {w w' : World} {base : Nat} {e e0 : TypeId} {size size0 : Nat} {v v0 : Value} {n n0 : Nat} {xs xs0 : List Value} (h : w.ownsRow base e size v n xs) (h0 : w.ownsRow base e0 size0 v0 n0 xs0) (hne : e ≠ e0) (hg : w.grownBy w' v0.ownBlock) : w'.ownsRow base e size v n xs := by
  refine ⟨h.1, ?_⟩
  rcases h.2 with h1 | ⟨g, cap, cur, hv, hb, hh, hr⟩
  · exact .inl h1
  · refine .inr ⟨g, cap, cur, hv, hb, ?_, hr⟩
    have hlt : g < w.heap.size := (Array.getElem?_eq_some_iff.1 hh).1
    rw [← hh]
    refine hg.block g hlt fun hc => ?_
    rcases h0.2 with ⟨hv0, _⟩ | ⟨g0, cap0, cur0, hv0, _, hh0, _⟩
    · rw [hv0] at hc
      cases hc
    · rw [hv0] at hc
      cases hc
      rw [hh] at hh0
      cases hh0
      exact hne rfl
def sweptB (m : Int) (e : E) : Bool := e.gone && decide (e.ver ≤ m)
def leftL (m : Int) (l : List E) : List E := l.filter fun e => !sweptB m e
def goneL (m : Int) (l : List E) : List Int := (l.filter fun e => sweptB m e).map (·.key)
theorem leftL_snoc (m : Int) (l : List E) (e : E) : leftL m (l ++ [e]) = if sweptB m e = true then leftL m l else leftL m l ++ [e] := by
  unfold leftL
  rw [List.filter_append]
  by_cases h : sweptB m e = true <;> simp [h]
theorem goneL_snoc (m : Int) (l : List E) (e : E) : goneL m (l ++ [e]) = if sweptB m e = true then goneL m l ++ [e.key] else goneL m l := by
  unfold goneL
  rw [List.filter_append]
  by_cases h : sweptB m e = true <;> simp [h]

theorem cell_five_new (w : World) (a b c d e : Value) (t : TypeId) : ∀ j u, [a, b, c, d, e][j]? = some u → (w.alloc (.cells #[a, b, c, d, e] t)).cell? ((⟨w.heap.size, 0, none⟩ : Addr).add j) = some u := by
  intro j u hj
  match j, hj with
  | 0, hj | 1, hj | 2, hj | 3, hj | 4, hj =>
    simp at hj
    subst hj
    simp [Addr.add]
  | j + 5, hj => simp at hj
def cellsL (l : List E) : List Value := l.flatMap E.cells
theorem cellsL_length (l : List E) : (cellsL l).length = l.length * 5 := by
  induction l with
  | nil => rfl
  | cons e r ih =>
    rw [cellsL, List.flatMap_cons, List.length_append, List.length_cons]
    rw [cellsL] at ih
    rw [ih, show e.cells.length = 5 from rfl]
    omega
theorem cellsL_snoc (l : List E) (e : E) : cellsL (l ++ [e]) = cellsL l ++ e.cells := by simp [cellsL]
theorem take_snoc {l : List E} {k : Nat} (h : k < l.length) : l.take (k + 1) = l.take k ++ [l.getD k E.zero] := by
  rw [List.take_add_one, List.getD, List.getElem?_eq_getElem h]
  rfl

set_option maxHeartbeats 400000 in
theorem sweep_walk (s : SlV E) (m : Int) (w : World) (hs : EntriesAt w s) (hc : chkC s.xs = 0) (hm : seqB m = true) :
    Calls Tryd.prog 24 #[.slice s.A s.xs.length s.c, .int .i64 m] w fun e w' => ∃ lv gv, e = .returned (.tuple #[lv, gv, .nilIface]) ∧ w'.ownsRow w.heap.size 26 5 lv (leftL m s.xs).length (cellsL (leftL m s.xs)) ∧ w'.ownsRow w.heap.size 3 1 gv (goneL m s.xs).length ((goneL m s.xs).map (Value.int .i64)) ∧ Below w.heap.size w w' := by
  obtain ⟨i0, hi, iz0, iz1, iz2⟩ := info_parts (show (Tryd.prog.info? 3).map (fun i => (i.zero, i.size, i.bytes)) = some (some (.int .i64 0), 1, 8) by kernel_rfl)
  obtain ⟨hn, hch, _, _⟩ := chkC_ok hc
  obtain ⟨i5, hi5, jz0, jz1, jz2⟩ := info_parts (show (Tryd.prog.info? 26).map (fun i => (i.zero, i.size, i.bytes)) = some (some E.zero.val, 5, 48) by kernel_rfl)
  have Hc := hid hc
  have Hm := hid hm
  clear hc hm
  go_enter Tryd.func24, Tryd.ntmps24
  go_wp2_with fail
  refine (ccheck_any s _ (hs.stays (by (repeat (first | with_reducible exact Below.refl _ _ | with_reducible assumption | (with_reducible refine Below.drew ?_) | (with_reducible refine Below.manyDrew ?_ _) | ((with_reducible refine Below.alloc ?_ ?_ _); rotate_left; (focus (first | omega | (dsimp only; omega) | (simp; done) | (simp; omega)))) | ((with_reducible refine Below.setCell ?_ ?_ _); rotate_left; (focus (first | omega | (dsimp only; omega) | (simp; done) | (simp; omega)))) | ((with_reducible refine Below.step ?_ (by assumption) ?_); rotate_left; (focus (first | omega | (dsimp only; omega) | (simp; done) | (simp; omega))))))))).mono ?_; rintro e w1 ⟨rfl, hb1⟩; obtain ⟨hc1, hf1⟩ := bcell hb1; have hz1 := hb1.size; (try simp only [World.size_alloc] at hz1); (try simp only [World.size_setCell] at hz1)
  rw [Hc.out, show errV 0 = .nilIface from rfl]
  go_wp2_with ((go_at_call 49; refine (seq_any _ _).mono ?_; rintro e w' ⟨rfl, rfl⟩); rw [Hm.out])
  go_loopw [8, 9, 23] (fun vo vg i wr => ∃ j : Nat, j ≤ s.xs.length ∧ i = .int .i64 j ∧ wr.ownsRow w.heap.size 26 5 vo (leftL m (s.xs.take j)).length (cellsL (leftL m (s.xs.take j))) ∧ wr.ownsRow w.heap.size 3 1 vg (goneL m (s.xs.take j)).length ((goneL m (s.xs.take j)).map (Value.int .i64)) ∧ Below w.heap.size w wr) (fun _ _ i _ => s.xs.length - (intOf i).toNat)
  case atStart => exact ⟨0, by omega, rfl, ⟨rfl, .inl ⟨rfl, rfl⟩⟩, ⟨rfl, .inl ⟨rfl, rfl⟩⟩, by (repeat (first | with_reducible exact Below.refl _ _ | with_reducible assumption | (with_reducible refine Below.drew ?_) | (with_reducible refine Below.manyDrew ?_ _) | ((with_reducible refine Below.alloc ?_ ?_ _); rotate_left; (focus (first | omega | (dsimp only; omega) | (simp; done) | (simp; omega)))) | ((with_reducible refine Below.setCell ?_ ?_ _); rotate_left; (focus (first | omega | (dsimp only; omega) | (simp; done) | (simp; omega)))) | ((with_reducible refine Below.step ?_ (by assumption) ?_); rotate_left; (focus (first | omega | (dsimp only; omega) | (simp; done) | (simp; omega))))))⟩
  case round =>
    obtain ⟨j, hj, rfl, hvo, hvg, hbr⟩ := hrel
    have hz0 := hbr.size
    by_cases hlt : j < s.xs.length
    · obtain ⟨g, off, hA, hg, hcells⟩ := hs.get (by omega)
      obtain ⟨k0, k1, k2, k3, k4⟩ := (hcells j hlt).stays hbr hg
      have htk := take_snoc hlt
      have hlo : (leftL m (s.xs.take j)).length ≤ 8 := by
        have h1 := List.length_filter_le (fun e => !sweptB m e) (s.xs.take j)
        have h2 : (s.xs.take j).length ≤ j := by rw [List.length_take]; omega
        unfold leftL
        omega
      have hlg : (goneL m (s.xs.take j)).length ≤ 8 := by
        have h1 := List.length_filter_le (fun e => sweptB m e) (s.xs.take j)
        have h2 : (s.xs.take j).length ≤ j := by rw [List.length_take]; omega
        unfold goneL
        rw [List.length_map]
        omega
      generalize s.xs.getD j E.zero = x at *
      have hl2 := leftL_snoc m (s.xs.take j) x
      have hg2 := goneL_snoc m (s.xs.take j) x
      rw [← htk] at hl2 hg2
      generalize leftL m (s.xs.take j) = L at *
      generalize goneL m (s.xs.take j) = G at *
      obtain ⟨xk, xv, xa, xg, xt⟩ := x
      simp only at k0 k1 k2 k3 k4
      rw [hA]
      rcases hsw : sweptB m ⟨xk, xv, xa, xg, xt⟩ with _ | _
      · rw [if_neg (by simp [hsw])] at hl2 hg2
        have Hl2 := hid hl2
        have Hg2 := hid hg2
        clear hA hcells htk hl2 hg2
        rcases xg with _ | _
        · clear hsw
          go_wp2_with (at_builtin; refine wpList_append_own _ rfl _ _ 22 rfl w.heap.size 26 i5 E.zero.val 5 48 Tryd.underlying22 hi5 jz0 jz1 jz2 rfl (by decide) _ _ _ rfl ((hvo.alloc _).alloc _) ⟨wr.heap.size + 1, 0, none⟩ 1 1 [.int .i64 xk, .int .i64 xv, .int .i64 xa, .bool false, .string xt] rfl rfl ?c1 ?c2 ?c3 ?c4 ?c5 ?_)
          case c1 =>
            have h := cell_five_new (wr.alloc (.cells #[.int .i64 xk, .int .i64 xv, .int .i64 xa, .bool false, .string xt] 26)) (.int .i64 xk) (.int .i64 xv) (.int .i64 xa) (.bool false) (.string xt) 26
            rw [World.size_alloc] at h
            exact h
          case c2 => intro u hu; simp at hu; rcases hu with rfl | rfl | rfl | rfl | rfl <;> rfl
          case c3 => unfold maxLen; omega
          case c4 => omega
          case c5 => simp; omega
          intro v' w2 hown2 hgrow _
          have hb2 : Below w.heap.size w w2 := ((hbr.alloc (by omega) _).alloc (by simp; omega) _).grown hgrow (by simp; omega) (fun j hj => (hvo.lt j hj).1)
          have hvg2 := ownsRow_keep ((hvg.alloc _).alloc _) ((hvo.alloc _).alloc _) (by decide) hgrow
          clear hgrow hvo hvg
          go_wp2_with fail
          go_roundw
          case rel => exact ⟨j + 1, by omega, by go_num, by rw [Hl2.out, List.length_append, cellsL_snoc]; exact hown2, by rw [Hg2.out]; exact hvg2, hb2⟩
          case measure => simp [intOf]; omega
        · have hvm : ¬ xv ≤ m := by simpa [sweptB] using hsw
          clear hsw
          go_wp2_with (at_builtin; refine wpList_append_own _ rfl _ _ 22 rfl w.heap.size 26 i5 E.zero.val 5 48 Tryd.underlying22 hi5 jz0 jz1 jz2 rfl (by decide) _ _ _ rfl ((hvo.alloc _).alloc _) ⟨wr.heap.size + 1, 0, none⟩ 1 1 [.int .i64 xk, .int .i64 xv, .int .i64 xa, .bool true, .string xt] rfl rfl ?d1 ?d2 ?d3 ?d4 ?d5 ?_)
          try
            case d1 =>
              have h := cell_five_new (wr.alloc (.cells #[.int .i64 xk, .int .i64 xv, .int .i64 xa, .bool true, .string xt] 26)) (.int .i64 xk) (.int .i64 xv) (.int .i64 xa) (.bool true) (.string xt) 26
              rw [World.size_alloc] at h
              exact h
          case d2 => exact ⟨rfl, rfl, rfl, rfl, rfl⟩
          case d3 => unfold maxLen; omega
          case d4 => omega
          case d5 => first | omega | (simp; omega)
          intro v' w2 hown2 hgrow _
          have hb2 : Below w.heap.size w w2 := ((hbr.alloc (by omega) _).alloc (by simp; omega) _).grown hgrow (by simp; omega) (fun j hj => (hvo.lt j hj).1)
          have hvg2 := ownsRow_keep ((hvg.alloc _).alloc _) ((hvo.alloc _).alloc _) (by decide) hgrow
          clear hgrow hvo hvg
          go_wp2_with fail
          go_roundw
          case rel => exact ⟨j + 1, by omega, by go_num, by rw [Hl2.out, List.length_append, cellsL_snoc]; exact hown2, by rw [Hg2.out]; exact hvg2, hb2⟩
          case measure => simp [intOf]; omega
      · rw [if_pos hsw] at hl2 hg2
        have Hl2 := hid hl2
        have Hg2 := hid hg2
        obtain ⟨hxg, hvm⟩ : xg = true ∧ xv ≤ m := by simpa [sweptB] using hsw
        subst hxg
        clear hA hcells htk hl2 hg2 hsw
        go_wp2_with (at_builtin; refine wpList_append_own _ rfl _ _ 24 rfl w.heap.size 3 i0 (.int .i64 0) 1 8 Tryd.underlying24 hi iz0 iz1 iz2 rfl (by decide) _ _ _ rfl ((hvg.alloc _).alloc _) ⟨wr.heap.size + 1, 0, none⟩ 1 1 [.int .i64 xk] rfl rfl ?e1 ?e2 ?e3 ?e4 ?e5 ?_)
        try
          case e1 =>
            have h := cell_one_new (wr.alloc (.cells #[.int .i64 xk, .int .i64 xv, .int .i64 xa, .bool true, .string xt] 26)) (.int .i64 xk) 3
            rw [World.size_alloc] at h
            exact h
        case e2 => rfl
        case e3 => unfold maxLen; omega
        case e4 => omega
        case e5 => first | omega | (simp; omega)
        intro v' w2 hown2 hgrow _
        have hb2 : Below w.heap.size w w2 := ((hbr.alloc (by omega) _).alloc (by simp; omega) _).grown hgrow (by simp; omega) (fun j hj => (hvg.lt j hj).1)
        have hvo2 := ownsRow_keep ((hvo.alloc _).alloc _) ((hvg.alloc _).alloc _) (by decide) hgrow
        clear hgrow hvo hvg
        go_wp2_with fail
        go_roundw
        case rel => exact ⟨j + 1, by omega, by go_num, by rw [Hl2.out]; exact hvo2, by rw [Hg2.out]; simpa using hown2, hb2⟩
        case measure => simp [intOf]; omega
    · obtain rfl : j = s.xs.length := by omega
      rw [List.take_length] at hvo hvg
      go_wp2_with fail
      refine bodyPost_ret (v := .tuple #[_, _, .nilIface]) ?_ rfl ⟨_, _, rfl, hvo, hvg, hbr⟩
      simp [results, Tryd.results24, go_sem]
end Go.Proofs.YthjbebngedajiaaDoor
