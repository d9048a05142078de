/-
  CONTRACTS of slices.Clone and slices.DeleteFunc at api.Hint. CONDITIONS: none.
-/
import Derived.Test.YtjhphagcmiggdaaHint
import Derived.Lib.SliceRun
namespace Go.Proofs.Ytjhphagcmiggdaa
open Go.RowKit
open Go.ChangeShapes Go.WideShapes Go.ChangeAt

set_option maxHeartbeats 1000000 in
theorem hclone_any (s : SlV H) (w : World) (hs : HsAt w s) (hn : s.xs.length ≤ 1000) :
    Calls Try.prog 15 #[.slice s.A s.xs.length s.c] w fun e w' => ∃ v, e = .returned v ∧ Ow H.cells 3 w.heap.size 29 w' v s.xs ∧ Below w.heap.size w w' := by
  have hnil := fun (W : World) (A : Option Addr) (n c n' c' : Nat) => Lib.run_eql_slice_nil (P := Try.prog) W 22 29 A n c n' c' Try.underlying22
  rcases hA : s.A with _ | a
  · have h0 : s.xs = [] := by
      rcases Nat.eq_zero_or_pos s.xs.length with h | h
      · exact List.eq_nil_of_length_eq_zero h
      · obtain ⟨b, off, h1, _⟩ := hs.row h
        rw [hA] at h1; cases h1
    have H0 := hid h0
    clear hA h0
    go_enter Try.func15, Try.ntmps15
    go_wp2_with fail
    go_ret
    exact ⟨_, rfl, by rw [H0.out]; exact Ow.nil _ _ _ _ _, by (repeat (first | with_reducible exact Below.refl _ _ | with_reducible assumption | (with_reducible refine Below.drew ?_) | (with_reducible refine Below.manyDrew ?_ _) | ((with_reducible refine Below.alloc ?_ ?_ _); rotate_left; (focus (first | omega | (dsimp only; omega) | (simp; done) | (simp; omega)))) | ((with_reducible refine Below.setCell ?_ ?_ _); rotate_left; (focus (first | omega | (dsimp only; omega) | (simp; done) | (simp; omega)))) | ((with_reducible refine Below.step ?_ (by assumption) ?_); rotate_left; (focus (first | omega | (dsimp only; omega) | (simp; done) | (simp; omega))))))⟩
  · have hs2 : HsAt w ⟨some a, s.c, s.xs⟩ := by rw [← hA]; exact hs
    clear hA
    have hnb : (some a).isNone = false := rfl
    go_enter Try.func15, Try.ntmps15
    go_wp2_with (at_builtin; refine appHs _ w.heap.size _ [] ⟨some a, s.c, s.xs⟩ (hs2.stays ?c0) (Ow.bare _ _ _ _ _ _) rfl _ _ rfl rfl rfl ?c1 ?c2 ?_)
    case c0 => (repeat (first | with_reducible exact Below.refl _ _ | with_reducible assumption | (with_reducible refine Below.drew ?_) | (with_reducible refine Below.manyDrew ?_ _) | ((with_reducible refine Below.alloc ?_ ?_ _); rotate_left; (focus (first | omega | (dsimp only; omega) | (simp; done) | (simp; omega)))) | ((with_reducible refine Below.setCell ?_ ?_ _); rotate_left; (focus (first | omega | (dsimp only; omega) | (simp; done) | (simp; omega)))) | ((with_reducible refine Below.step ?_ (by assumption) ?_); rotate_left; (focus (first | omega | (dsimp only; omega) | (simp; done) | (simp; omega))))))
    case c1 => first | omega | (simp; omega)
    case c2 => first | omega | simp
    intro v' w2 hown2 hf2 _
    have hb2 : Below w.heap.size w w2 := (show Below w.heap.size w _ by (repeat (first | with_reducible exact Below.refl _ _ | with_reducible assumption | (with_reducible refine Below.drew ?_) | (with_reducible refine Below.manyDrew ?_ _) | ((with_reducible refine Below.alloc ?_ ?_ _); rotate_left; (focus (first | omega | (dsimp only; omega) | (simp; done) | (simp; omega)))) | ((with_reducible refine Below.setCell ?_ ?_ _); rotate_left; (focus (first | omega | (dsimp only; omega) | (simp; done) | (simp; omega)))) | ((with_reducible refine Below.step ?_ (by assumption) ?_); rotate_left; (focus (first | omega | (dsimp only; omega) | (simp; done) | (simp; omega))))))).trans (hf2.below0 (by simp) (fun i hi => by cases hi))
    clear hf2
    go_wp2_with fail
    go_ret
    exact ⟨v', rfl, hown2, hb2⟩

theorem idxA_cases {α : Type} (p : α → Bool) (z : α) (l : List α) : ∀ k : Nat, ((∀ y ∈ l, p y = false) ∧ idxA p l k = -1) ∨ ∃ i, i < l.length ∧ idxA p l k = ((k + i : Nat) : Int) ∧ (∀ y ∈ l.take i, p y = false) ∧ p (l.getD i z) = true := by
  induction l with
  | nil => intro k; exact .inl ⟨by simp, rfl⟩
  | cons a r ih =>
    intro k
    by_cases h : p a = true
    · exact .inr ⟨0, by simp, by rw [idxA, if_pos h]; simp, by simp, by simpa using h⟩
    · rcases ih (k + 1) with ⟨h1, h2⟩ | ⟨i, h1, h2, h3, h4⟩
      · exact .inl ⟨by intro y hy; rcases List.mem_cons.1 hy with rfl | hy; simpa using h; exact h1 y hy, by rw [idxA, if_neg h, h2]⟩
      · refine .inr ⟨i + 1, by simpa using h1, by rw [idxA, if_neg h, h2]; congr 1; omega, ?_, by simpa using h4⟩
        intro y hy
        rw [List.take_succ_cons] at hy
        rcases List.mem_cons.1 hy with rfl | hy
        · simpa using h
        · exact h3 y hy
def unlikeH (x y : H) : Bool := !alikeH x y
theorem filter_all {α : Type} {q : α → Bool} {l : List α} (h : ∀ y ∈ l, q y = true) : l.filter q = l := List.filter_eq_self.2 h
theorem take_set_snoc {α : Type} (m : List α) (i : Nat) (y : α) (h : i < m.length) : (m.set i y).take (i + 1) = m.take i ++ [y] := by
  rw [List.take_add_one, List.take_set_of_le (Nat.le_refl _), List.getElem?_set_self h]
  rfl

set_option maxHeartbeats 4000000 in
theorem hdel_any (x0 x1 x2 : Int) (bx base : Nat) (v : Value) (l : List H) (w : World) (hown : Ow H.cells 3 base 29 w v l) (hbl : bx < w.heap.size) (h0 : w.cell? ⟨bx, 0, none⟩ = some (.int .i64 x0)) (h1 : w.cell? ⟨bx, 1, none⟩ = some (.int .i64 x1))
    (hbx : foot v ≠ some bx) (hg : ∀ y ∈ l, y.good) (hlen : l.length ≤ 1000) (hbw : base ≤ w.heap.size) :
    Calls Try.prog 14 #[v, .func (.func 11) #[] #[.pointer (some ⟨bx, 0, none⟩)]] w fun e w' => ∃ v', e = .returned v' ∧ Ow H.cells 3 base 29 w' v' (l.filter (unlikeH ⟨x0, x1, x2⟩)) ∧ foot v' = foot v ∧ Fr (fun k => some k = foot v) w w' := by
  obtain ⟨r, rfl, hrx, hrA, hro, hrf⟩ := HsAt.of_ow hown hg
  have hp : ∀ W y0 y1 y2, Below w.heap.size w W → Calls Try.prog 11 #[.agg #[.int .i64 y0, .int .i64 y1, .int .i64 y2], .pointer (some ⟨bx, 0, none⟩)] W fun e W' => e = .returned (.bool (alikeH ⟨x0, x1, x2⟩ ⟨y0, y1, y2⟩)) ∧ Below W.heap.size W W' := fun W y0 y1 y2 hb =>
    alikeH_any x0 x1 x2 y0 y1 y2 bx W (Nat.lt_of_lt_of_le hbl hb.size) ((hb.cell (p := ⟨bx, 0, none⟩) hbl).trans h0) ((hb.cell (p := ⟨bx, 1, none⟩) hbl).trans h1)
  have Hp := hid hp
  subst hrx
  have Hown := hid hown
  have Hbx := hid hbx
  clear hp hown hbx hrf
  rcases idxA_cases (alikeH ⟨x0, x1, x2⟩) H.zero r.xs 0 with ⟨hno, hix⟩ | ⟨i0, hi0, hix, hno, hyes⟩
  · have Hix := hid hix
    have Hno := hid hno
    clear hix hno
    go_enter Try.func14, Try.ntmps14
    go_wp2_with fail
    refine (hidx1 (alikeH ⟨x0, x1, x2⟩) bx r _ hrA Hp.out).mono ?_
    rw [Hix.out]
    rintro e w1 ⟨rfl, hb1⟩; obtain ⟨hc1, hf1⟩ := bcell hb1; have hz1 := hb1.size; (try simp only [World.size_alloc] at hz1); (try simp only [World.size_setCell] at hz1)
    go_wp2_with fail
    go_ret
    refine ⟨_, rfl, ?_, rfl, Fr.ofB hb1⟩
    rw [filter_all (fun y hy => by simp [unlikeH, Hno.out y hy])]
    exact Hown.out.belowS hb1
  · have Hix := hid hix
    have Hno := hid hno
    have Hyes := hid hyes
    clear hix hno hyes
    obtain ⟨g, off, cap, hv, hlc, hcm, hbg, hgl, hfo, _, _⟩ := Hown.out.get (by omega)
    have hAc : r.A = some ⟨g, off, none⟩ ∧ r.c = cap := by
      injection hv with e1 _ e2
      exact ⟨e1, e2⟩
    obtain ⟨hA, rfl⟩ := hAc
    have Hfo : Hid (foot (.slice (some ⟨g, off, none⟩) r.xs.length r.c) = some g) := hid (by rw [← hA]; exact hfo)
    have hgb : g ≠ bx := by
      intro h
      apply Hbx.out
      rw [hfo, h]
    have Hown1 : Hid (Ow H.cells 3 base 29 w (.slice (some ⟨g, off, none⟩) r.xs.length r.c) r.xs) := hid (by rw [← hA]; exact Hown.out)
    have HA := hid hA
    clear hv hfo hA
    unfold maxLen at hcm
    go_enter Try.func14, Try.ntmps14
    go_wp2_with fail
    refine (hidx1 (alikeH ⟨x0, x1, x2⟩) bx r _ hrA Hp.out).mono ?_
    rw [Hix.out, Nat.zero_add, HA.out]
    rintro e w1 ⟨rfl, hb1⟩; obtain ⟨hc1, hf1⟩ := bcell hb1; have hz1 := hb1.size; (try simp only [World.size_alloc] at hz1); (try simp only [World.size_setCell] at hz1)
    have hni0 : ((i0 : Int) == -1) = false := by rw [beq_eq_false_iff_ne]; omega
    have hidxl : r.xs.length ≤ 1000 := hlen
    clear hc1 hf1
    have Hh0 := hid h0
    have Hh1 := hid h1
    clear h0 h1 hrA
    go_wp2_with fail
    go_loopw [5, 6] (fun a b wr => ∃ (i j : Nat) (m : List H), a = .int .i64 i ∧ b = .int .i64 j ∧ i < j ∧ j ≤ r.xs.length ∧ m.length = r.xs.length ∧ m.take i = (r.xs.take j).filter (unlikeH ⟨x0, x1, x2⟩) ∧ m.drop j = r.xs.drop j ∧ Ow H.cells 3 base 29 wr (.slice (some ⟨g, off, none⟩) r.xs.length r.c) m ∧ Fr (fun k => k = g) w wr)
      (fun _ b _ => r.xs.length - (intOf b).toNat)
    case atStart =>
      refine ⟨i0, i0 + 1, r.xs, rfl, by go_num, by omega, by omega, rfl, ?_, rfl, Hown1.out.belowS hb1, Fr.ofB hb1⟩
      have hlast : ¬ unlikeH ⟨x0, x1, x2⟩ (r.xs.getD i0 H.zero) = true := by unfold unlikeH; rw [Hyes.out]; decide
      rw [take_snocD H.zero hi0, List.filter_append, filter_all (fun y hy => by simp [unlikeH, Hno.out y hy]), List.filter_cons_of_neg hlast, List.filter_nil, List.append_nil]
    case round =>
      obtain ⟨i, j, m, rfl, rfl, hij, hjl, hml, htk, hdr, hOw, hFr⟩ := hrel
      have hz0 := hFr.size
      have hbxr : bx < wr.heap.size := by omega
      have hb0 : wr.cell? ⟨bx, 0, none⟩ = some (.int .i64 x0) := (hFr.cell (p := ⟨bx, 0, none⟩) hbl (fun h => hgb h.symm)).trans Hh0.out
      have hb1' : wr.cell? ⟨bx, 1, none⟩ = some (.int .i64 x1) := (hFr.cell (p := ⟨bx, 1, none⟩) hbl (fun h => hgb h.symm)).trans Hh1.out
      have Htk := hid htk
      have Hdr := hid hdr
      have Hml := hid hml
      clear htk hdr
      by_cases hlt : j < r.xs.length
      · obtain ⟨g', off', cap', hv, _, _, _, hgl', _, hcells, hfz⟩ := hOw.get (by omega)
        obtain ⟨rfl, rfl⟩ : g = g' ∧ off = off' := by
          injection hv with e1 _ _
          cases e1
          exact ⟨rfl, rfl⟩
        clear hv
        have hyj : m.getD j H.zero = r.xs.getD j H.zero := by
          have h := Hdr.out
          rw [drop_consD H.zero (by omega), drop_consD H.zero hlt] at h
          exact (List.cons.inj h).1
        have hdr2 : m.drop (j + 1) = r.xs.drop (j + 1) := by
          have h := Hdr.out
          rw [drop_consD H.zero (by omega), drop_consD H.zero hlt] at h
          exact (List.cons.inj h).2
        have Hdr2 := hid hdr2
        have Htake := hid (take_snocD H.zero hlt)
        have k0 : wr.cell? ⟨g, off + j * 3, none⟩ = some (.int .i64 (r.xs.getD j H.zero).node) := by
          rw [← hyj, getD_get H.zero (by omega)]; exact hcells j (by omega) 0 (by decide)
        have k1 : wr.cell? ⟨g, off + j * 3 + 1, none⟩ = some (.int .i64 (r.xs.getD j H.zero).key) := by
          rw [← hyj, getD_get H.zero (by omega)]; exact hcells j (by omega) 1 (by decide)
        have k2 : wr.cell? ⟨g, off + j * 3 + 2, none⟩ = some (.int .i64 (r.xs.getD j H.zero).ver) := by
          rw [← hyj, getD_get H.zero (by omega)]; exact hcells j (by omega) 2 (by decide)
        have hil : i < m.length := by omega
        have i0' : wr.cell? ⟨g, off + i * 3, none⟩ = some (.int .i64 m[i].node) := hcells i hil 0 (by decide)
        have i1' : wr.cell? ⟨g, off + i * 3 + 1, none⟩ = some (.int .i64 m[i].key) := hcells i hil 1 (by decide)
        have i2' : wr.cell? ⟨g, off + i * 3 + 2, none⟩ = some (.int .i64 m[i].ver) := hcells i hil 2 (by decide)
        have z0 : wr.frozen? ⟨g, off + i * 3, none⟩ = false := hfz _
        have z1 : wr.frozen? ⟨g, off + i * 3 + 1, none⟩ = false := hfz _
        have z2 : wr.frozen? ⟨g, off + i * 3 + 2, none⟩ = false := hfz _
        generalize r.xs.getD j H.zero = y at *
        generalize m[i] = z at i0' i1' i2'
        obtain ⟨y0, y1, y2⟩ := y
        simp only at k0 k1 k2
        clear hcells hfz hyj hdr2 hml
        have hilr : i < r.xs.length := by omega
        rcases hpy : alikeH ⟨x0, x1, x2⟩ ⟨y0, y1, y2⟩ with _ | _
        all_goals
          have Hpy := hid hpy
          clear hpy
          go_wp2_with fail
          refine (alikeH_any x0 x1 x2 y0 y1 y2 bx _ (by simp; omega) ((World.cell?_alloc_lt wr _ ⟨bx, 0, none⟩ hbxr).trans hb0) ((World.cell?_alloc_lt wr _ ⟨bx, 1, none⟩ hbxr).trans hb1')).mono ?_
          rw [Hpy.out]
          rintro e w3 ⟨rfl, hb3⟩; obtain ⟨hc3, hf3⟩ := bcell hb3; have hz3 := hb3.size; (try simp only [World.size_alloc] at hz3); (try simp only [World.size_setCell] at hz3)
          have hl3 : wr.heap.size < w3.heap.size := by omega
          have hl4 : g < w3.heap.size := by omega
          have hl5 : wr.heap.size ≠ g := by omega
          have hl6 : g ≠ wr.heap.size := by omega
          go_wp2_with fail
          go_roundw
        case rel =>
          have hF3 : Fr (fun k => k = g) w w3 := (((hFr.alloc _)).stepB (by simpa using hb3))
          have hO3 : Ow H.cells 3 base 29 w3 (.slice (some ⟨g, off, none⟩) r.xs.length r.c) m := ((hOw.alloc _)).belowS (by simpa using hb3)
          refine ⟨i + 1, j + 1, m.set i ⟨y0, y1, y2⟩, by go_num, by go_num, by omega, by omega, by rw [List.length_set]; exact Hml.out, ?_, ?_, ?_, ?_⟩
          · rw [take_set_snoc _ _ _ hil, Htk.out, Htake.out, List.filter_append]
            simp [unlikeH, Hpy.out]
          · rw [List.drop_set_of_lt (by omega)]; exact Hdr2.out
          · exact hO3.set H.cells_length hil ⟨y0, y1, y2⟩
          · exact ((hF3.setCell (p := ⟨g, off + i * 3, none⟩) (.inl rfl) _).setCell (p := ⟨g, off + i * 3 + 1, none⟩) (.inl rfl) _).setCell (p := ⟨g, off + i * 3 + 2, none⟩) (.inl rfl) _
        case measure => simp [intOf]; omega
        case rel =>
          have hF3 : Fr (fun k => k = g) w w3 := (((hFr.alloc _)).stepB (by simpa using hb3))
          have hO3 : Ow H.cells 3 base 29 w3 (.slice (some ⟨g, off, none⟩) r.xs.length r.c) m := ((hOw.alloc _)).belowS (by simpa using hb3)
          refine ⟨i, j + 1, m, rfl, by go_num, by omega, by omega, Hml.out, ?_, Hdr2.out, hO3, hF3⟩
          rw [Htk.out, Htake.out, List.filter_append]
          simp [unlikeH, Hpy.out]
        case measure => simp [intOf]; omega
      · obtain rfl : j = r.xs.length := by omega
        have hic : ¬ r.c = i := by omega
        obtain ⟨cur, hB, hcur⟩ := hOw.blk (by omega)
        have hil : (i : Int) ≤ r.xs.length := by omega
        have hil2 : i ≤ r.xs.length := by omega
        have hic2 : i ≤ r.c := by omega
        obtain ⟨zs, hzs⟩ : ∃ zs, (Builtin.zeroCells H.zero.val.cells (r.xs.length - i)).toList = zs := ⟨_, rfl⟩
        have hzl : zs.length = (r.xs.length - i) * 3 := by rw [← hzs, Array.length_toList, size_zeroCells]; rfl
        have hz1 : ∀ u ∈ zs, u.oneCell' = true := by
          rw [← hzs]
          exact zeros_one (z := H.zero.val.cells) (by intro k hk; match k, hk with | 0, _ | 1, _ | 2, _ => rfl) (r.xs.length - i)
        have Hzs := hid hzs
        have Hzl := hid hzl
        have Hz1 := hid hz1
        clear hzs hzl hz1
        have HB := hid hB
        clear hB
        go_wp2_with ((with_reducible refine wpList_clear _ g (off + i * 3) (r.xs.length - i) (r.c - i) 3 24 cur 29 22 H.zero.val zs Hzs.out HB.out ?d1 Try.underlying22 infoH rfl Hz1.out rfl _ rfl rfl ?_))
        case d1 => omega
        go_wp2_with fail
        go_ret
        have hfin : (r.xs.filter (unlikeH ⟨x0, x1, x2⟩)) = m.take i := by
          rw [Htk.out, List.take_length]
        refine ⟨_, rfl, ?_, ?_, ?_⟩
        · rw [hfin]
          refine (hOw.take (k := i) (by omega)).far ?_ ?_
          · rw [List.length_take]; omega
          · rw [Hzl.out]; omega
        · rw [HA.out]; exact foot_slice _ _ _ _
        · have : Fr (fun k => k = g) w (World.setCells wr g (off + i * 3) zs) := Fr.setCells g _ _ _ hFr (.inl rfl)
          rw [HA.out]
          exact this.mono fun k _ hk => by show some k = _; rw [hk]; exact Hfo.out.symm
end Go.Proofs.Ytjhphagcmiggdaa
