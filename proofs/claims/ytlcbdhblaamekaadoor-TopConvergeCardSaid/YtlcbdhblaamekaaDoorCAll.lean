/-
  CONTRACTS of cache.Add, cache.All, cache.Both. CONDITIONS: none.
-/
import Derived.Test.YtlcbdhblaamekaaDoorEKit
import Derived.Test.YtlcbdhblaamekaaDoorCAddO
import Derived.Test.YtlcbdhblaamekaaDoorCLaw
namespace Go.Proofs.YtlcbdhblaamekaaDoor
open Go.RowKit
open Go.ChangeShapes Go.WideShapes Go.ChangeAt

theorem chk_goodE {e : E} (h : chk e = 0) : e.good := by
  obtain ⟨h1, h2, h3, _, h5, _⟩ := chk_zero.1 h
  have := keyB_true.1 h1
  have := seqB_true.1 h2
  have := seqB_true.1 h3
  exact ⟨by omega, by omega, by omega, by unfold maxLen; omega⟩
theorem val_good {l : List E} (h : chkC l = 0) : ∀ e ∈ l, e.good := fun e he => chk_goodE ((val_iff.1 h).2 e he)
theorem val_facts {l : List E} (h : chkC l = 0) : SortedK l ∧ KeysIn l ∧ l.length ≤ 8 := by
  obtain ⟨h1, _, h3, h4⟩ := chkC_ok h
  exact ⟨h3, h4, h1⟩
/-- what Add tells, and leaves -/
def addR (l : List E) (e : E) : List E × Bool × Int :=
  if chkC l = 0 then (if chk e = 0 then (if (addC l e).2 = 0 then ((addC l e).1, !eqsE (addC l e).1 l, 0) else ([], false, (addC l e).2)) else ([], false, chk e)) else ([], false, chkC l)
def ARes (w : World) (r : List E × Bool × Int) (e : Ending) (w' : World) : Prop :=
  ∃ v, e = .returned (.tuple #[v, .bool r.2.1, errV r.2.2]) ∧ Ow E.cells 5 w.heap.size 38 w' v r.1 ∧ Below w.heap.size w w'

/-- what a call that hands out both of two does -/
theorem CRes.under {W w : World} {l : List E} {en : Int} {e : Ending} {w' : World} (h : CRes w l en e w') (hb : Below W.heap.size W w) : CRes W l en e w' := by
  obtain ⟨v, h1, h2, h3⟩ := h
  exact ⟨v, h1, h2.mono hb.size, Below.step hb h3 hb.size⟩
set_option maxHeartbeats 4000000 in
set_option maxRecDepth 100000 in
theorem call_any (s m : SlV E) (w : World) (hs : EsAt w s) (hm : EsAt w m) (hvs : chkC s.xs = 0) (hvm : chkC m.xs = 0) :
    Calls Tryd.prog 49 #[.slice s.A s.xs.length s.c, .slice m.A m.xs.length m.c] w (CRes w (allC s.xs m.xs).1 (allC s.xs m.xs).2) := by
  obtain ⟨_, _, hl8⟩ := val_facts hvs
  obtain ⟨_, _, hm8⟩ := val_facts hvm
  have Hgs := hid (val_good hvs)
  have Hvs := hid hvs
  have Hvm := hid hvm
  have Hs := hid hs
  generalize hR : allC s.xs m.xs = R
  have HR := hid hR
  clear hR hvs hvm hs
  go_enter Tryd.func49, Tryd.ntmps49
  go_wp2_with fail
  refine (eclone_any s _ Hs.out (by omega)).mono ?_
  rintro e w1 ⟨v, rfl, hOw1, hb1⟩
  have HOw1 := hid hOw1
  have Hb1 := hid hb1
  clear hOw1 hb1
  go_wp2_with fail
  go_loopw [6, 15] (fun u i wr => ∃ (k : Nat) (l' : List E), k ≤ m.xs.length ∧ i = .int .i64 k ∧ allC l' (m.xs.drop k) = R ∧ chkC l' = 0 ∧ Ow E.cells 5 w.heap.size 38 wr u l' ∧ Below w.heap.size w wr) (fun _ i _ => m.xs.length - (intOf i).toNat)
  case atStart => exact ⟨0, s.xs, Nat.zero_le _, rfl, HR.out, Hvs.out, HOw1.out, Hb1.out⟩
  case round =>
    obtain ⟨k, l', hk, rfl, hRk, hv', hOw, hb⟩ := hrel
    obtain ⟨r, hr, hrx, hrA, _, _⟩ := EsAt.of_ow hOw (val_good hv')
    have Hv' := hid hv'
    have Hrx := hid hrx
    have HrA := hid hrA
    have HOw := hid hOw
    have Hr := hid hr
    have HRk := hid hRk
    have hzb := hb.size
    clear hRk hrx hrA hOw HOw1 Hb1
    by_cases hlt : k < m.xs.length
    · obtain ⟨g, off, hA, hgl, hcells⟩ := hm.row (by omega)
      obtain ⟨k0, k1, k2, k3, k4⟩ := (hcells k hlt).stays hb hgl
      have hy := drop_consD E.zero hlt
      have hych := (val_iff.1 Hvm.out).2 _ (getD_memD E.zero hlt)
      have Hdr := hid hy
      have Hb := hid hb
      rw [hr, hA]
      generalize m.xs.getD k E.zero = y at *
      obtain ⟨y0, y1, y2, y3, y4⟩ := y
      simp only at k0 k1 k2 k3 k4
      have HAd := hid (fun W (hW : Below wr.heap.size wr W) => show Calls Tryd.prog 52 #[.slice r.A r.xs.length r.c, .agg #[.int .i64 y0, .int .i64 y1, .int .i64 y2, .bool y3, .string y4]] W (CRes W (addC l' ⟨y0, y1, y2, y3, y4⟩).1 (addC l' ⟨y0, y1, y2, y3, y4⟩).2) from by
        have := added_any r y0 y1 y2 y3 y4 W (chk_goodE hych) (chk_key hych) (HrA.out.stays hW) (by rw [Hrx.out]; exact (val_facts Hv'.out).1) (by rw [Hrx.out]; exact (val_facts Hv'.out).2.1) (by rw [Hrx.out]; exact (val_facts Hv'.out).2.2)
        rw [Hrx.out] at this ⊢
        exact this)
      have Hkey := hid (fun h => ((addC_key Hv'.out hych).2 h).1)
      rw [Hdr.out, allC] at HRk
      have hgr : g < wr.heap.size := Nat.lt_of_lt_of_le hgl hb.size
      clear hcells hA hy hych hb hv' hr
      by_cases h0 : (addC l' ⟨y0, y1, y2, y3, y4⟩).2 = 0
      · rw [if_pos h0] at HRk
        have hv2 := Hkey.out h0
        rw [h0] at HAd
        generalize (addC l' ⟨y0, y1, y2, y3, y4⟩).1 = l2 at *
        have Hv2 := hid hv2
        clear h0 hv2 Hkey
        go_wp2_with fail
        refine (HAd.out _ (by (repeat (first | with_reducible exact Below.refl _ _ | with_reducible assumption | (with_reducible refine Below.drew ?_) | (with_reducible refine Below.manyDrew ?_ _) | ((with_reducible refine Below.alloc ?_ ?_ _); rotate_left; (focus (first | omega | (dsimp only; omega) | (simp; done) | (simp; omega)))) | ((with_reducible refine Below.setCell ?_ ?_ _); rotate_left; (focus (first | omega | (dsimp only; omega) | (simp; done) | (simp; omega)))) | ((with_reducible refine Below.step ?_ (by assumption) ?_); rotate_left; (focus (first | omega | (dsimp only; omega) | (simp; done) | (simp; omega)))))))).mono ?_
        rintro e w2 ⟨v2, rfl, hOw2, hb2⟩
        rw [errV_zero]
        have Hb2 := hid (Below.step (Hb.out.alloc hzb _) hb2 (by simp; omega))
        have HOw2 := hid (hOw2.mono (base' := w.heap.size) (by simp; omega))
        clear hOw2 hb2
        go_wp2_with fail
        go_roundw
        case rel => exact ⟨k + 1, l2, by omega, by go_num, HRk.out, Hv2.out, HOw2.out, Hb2.out⟩
        case measure => simp [intOf]; omega
      · rw [if_neg h0] at HRk
        have Hen := hid (errV_ne h0)
        generalize (addC l' ⟨y0, y1, y2, y3, y4⟩).2 = en at *
        have HRk2 := hid HRk.out.symm
        clear h0 Hkey
        go_wp2_with fail
        refine (HAd.out _ (by (repeat (first | with_reducible exact Below.refl _ _ | with_reducible assumption | (with_reducible refine Below.drew ?_) | (with_reducible refine Below.manyDrew ?_ _) | ((with_reducible refine Below.alloc ?_ ?_ _); rotate_left; (focus (first | omega | (dsimp only; omega) | (simp; done) | (simp; omega)))) | ((with_reducible refine Below.setCell ?_ ?_ _); rotate_left; (focus (first | omega | (dsimp only; omega) | (simp; done) | (simp; omega)))) | ((with_reducible refine Below.step ?_ (by assumption) ?_); rotate_left; (focus (first | omega | (dsimp only; omega) | (simp; done) | (simp; omega)))))))).mono ?_
        rintro e w2 ⟨v2, rfl, _, hb2⟩
        rw [Hen.out]
        have Hb2 := hid (Below.step (Hb.out.alloc hzb _) hb2 (by simp; omega))
        clear hb2
        go_wp2_with fail
        refine bodyPost_ret (v := .tuple #[.slice none 0 0, .iface 59 (.int .i64 en)]) ?_ rfl ?_
        · simp [results, Tryd.results49, go_sem]
        · rw [HRk2.out, ← Hen.out]
          exact ⟨_, rfl, Ow.nil _ _ _ _ _, Hb2.out⟩
    · obtain rfl : k = m.xs.length := by omega
      have hRe : R = (l', 0) := by
        have := HRk.out
        rw [List.drop_length] at this
        exact this.symm
      have HRe := hid hRe
      have Hb := hid hb
      clear hRe hb hv' hr
      go_wp2_with fail
      go_ret2
      rw [HRe.out]
      exact ⟨_, rfl, HOw.out, Hb.out⟩
end Go.Proofs.YtlcbdhblaamekaaDoor
