/-
  CONTRACTS of the references mereref1.Add, either way, and mereref1.All. CONDITIONS: none.
-/
import Derived.Test.YthjbebngedajiaaDoorRAddY
import Derived.Test.YthjbebngedajiaaDoorCAll
namespace Go.Proofs.YthjbebngedajiaaDoor
open Go.RowKit
open Go.ChangeShapes Go.WideShapes Go.ChangeAt

theorem radd_any (s : SlV E) (x0 x1 x2 : Int) (x3 : Bool) (x4 : ByteArray) (w : World) (hs : EsAt w s) (hn8 : s.xs.length ≤ 8) :
    Calls Tryd.prog 31 #[.slice s.A s.xs.length s.c, .agg #[.int .i64 x0, .int .i64 x1, .int .i64 x2, .bool x3, .string x4]] w (RARes w (radd s.xs ⟨x0, x1, x2, x3, x4⟩)) := by
  unfold radd
  by_cases h : (rget s.xs x0).2 = true
  · rw [if_pos h]
    exact radd_yes s x0 x1 x2 x3 x4 w hs hn8 h
  · rw [if_neg h]
    exact radd_no s x0 x1 x2 x3 x4 w hs hn8 (by simpa using h)
/-- the reference's Add does what the program's does -/
theorem radd_addC {l : List E} {e : E} (hl : chkC l = 0) : radd l e = addC l e := by
  obtain ⟨ha, hc⟩ := val_iff.1 hl
  have hat := at_lk (k := e.key) ha
  unfold radd addC rget
  rcases hh : hasK e.key l with _ | _
  · rw [hh, if_neg (by decide)] at hat
    rw [hat, if_neg (by decide), if_neg (by decide), rgo_put e ha, put_ins l e hh]
  · rw [hh, if_pos rfl] at hat
    rw [hat, if_pos rfl, if_pos rfl]
    generalize l.getD (plc e.key l) E.zero = x at *
    obtain ⟨hxm, hxk⟩ := lk_some hat
    rw [← joined_rjoin hxk]
    by_cases h0 : (joined x e).2 = 0
    · have hjk : (joined x e).1.key = e.key := (joined_jn hxk h0).key hxk
      rw [if_pos h0, if_pos h0, rgo_put _ ha, show plc e.key l = plc (joined x e).1.key l by rw [hjk], put_set l _ (by rw [hjk]; exact hh)]
    · rw [if_neg h0, if_neg h0]

theorem addC_nil {l : List E} {e : E} (h : (addC l e).2 ≠ 0) : (addC l e).1 = [] := by
  unfold addC at h ⊢
  split
  · rename_i h1
    rw [if_pos h1] at h
    split
    · rename_i h2
      rw [if_pos h2] at h
      exact absurd rfl h
    · rfl
  · rename_i h1
    rw [if_neg h1] at h
    exact absurd rfl h

/-! ### mereref1.All -/
def RLRes (w : World) (r : List E × Int) (e : Ending) (w' : World) : Prop :=
  ∃ q : SlV E, e = .returned (.tuple #[.slice q.A q.xs.length q.c, .int .i64 r.2]) ∧ q.xs = r.1 ∧ EsAt w' q ∧ Below w.heap.size w w'

set_option maxHeartbeats 4000000 in
set_option maxRecDepth 100000 in
theorem rall_any (s m : SlV E) (w : World) (hs : EsAt w s) (hm : EsAt w m) (hvs : chkC s.xs = 0) (hvm : chkC m.xs = 0) :
    Calls Tryd.prog 73 #[.slice s.A s.xs.length s.c, .slice m.A m.xs.length m.c] w (RLRes w (allC s.xs m.xs)) := by
  obtain ⟨_, _, hm8⟩ := val_facts hvm
  have Hvs := hid hvs
  have Hvm := hid hvm
  have Hs := hid hs
  generalize hR : allC s.xs m.xs = R
  have HR := hid hR
  clear hR hvs hvm hs
  go_enter Tryd.func73, Tryd.ntmps73
  go_wp2_with fail
  go_loopw [0, 6, 7] (fun u fv i wr => ∃ (k : Nat) (r : SlV E) (f : Int), k ≤ m.xs.length ∧ u = .slice r.A r.xs.length r.c ∧ fv = .int .i64 f ∧ i = .int .i64 k ∧ EsAt wr r ∧ (f = 0 → chkC r.xs = 0 ∧ allC r.xs (m.xs.drop k) = R) ∧ (f ≠ 0 → R = (r.xs, f)) ∧ Below w.heap.size w wr) (fun _ _ i _ => m.xs.length - (intOf i).toNat)
  case atStart => exact ⟨0, s, 0, Nat.zero_le _, rfl, rfl, rfl, Hs.out, (fun _ => ⟨Hvs.out, HR.out⟩), (fun h => absurd rfl h), Below.refl _ _⟩
  case round =>
    obtain ⟨k, r, f, hk, rfl, rfl, rfl, hrA, h0, h1, hb⟩ := hrel
    have HrA := hid hrA
    have H0 := hid h0
    have H1 := hid h1
    have Hb := hid hb
    have hzb := hb.size
    clear hrA h0 h1
    by_cases hf : f = 0
    · subst hf
      obtain ⟨hv, hRk⟩ := H0.out rfl
      by_cases hlt : k < m.xs.length
      · obtain ⟨g, off, hA, hgl, hcells⟩ := hm.row (by omega)
        obtain ⟨k0, k1, k2, k3, k4⟩ := (hcells k hlt).stays hb hgl
        have hych := (val_iff.1 Hvm.out).2 _ (getD_memD E.zero hlt)
        rw [drop_consD E.zero hlt, allC] at hRk
        rw [hA]
        generalize m.xs.getD k E.zero = y at *
        obtain ⟨y0, y1, y2, y3, y4⟩ := y
        simp only at k0 k1 k2 k3 k4
        have HAd := hid (radd_any r y0 y1 y2 y3 y4 wr HrA.out (val_facts hv).2.2)
        rw [radd_addC hv] at HAd
        have hkey := (addC_key hv hych).2
        have hnil := addC_nil (l := r.xs) (e := ⟨y0, y1, y2, y3, y4⟩)
        generalize addC r.xs ⟨y0, y1, y2, y3, y4⟩ = A at *
        obtain ⟨l2, f2⟩ := A
        have Hkey := hid hkey
        have HRk := hid hRk
        have Hnil := hid hnil
        clear hcells hA hych hb hv hkey hRk hnil
        go_wp2_with fail
        refine HAd.out.mono ?_
        rintro e w2 ⟨v2, rfl, hOw2, hb2⟩
        have hl2g : ∀ e ∈ l2, e.good := by
          by_cases hf2 : f2 = 0
          · exact val_good (Hkey.out hf2).1
          · rw [show l2 = [] from Hnil.out hf2]
            simp
        obtain ⟨r2, rfl, hr2x, hr2A, _, _⟩ := EsAt.of_ow hOw2 hl2g
        have Hb2 := hid (Below.step Hb.out hb2 hzb)
        have Hr2x := hid hr2x
        have Hr2A := hid hr2A
        clear hr2x hr2A hOw2 hb2
        go_wp2_with fail
        go_roundw
        case rel =>
          refine ⟨k + 1, r2, f2, by omega, rfl, rfl, by go_num, Hr2A.out, (fun hf2 => ?_), (fun hf2 => ?_), Hb2.out⟩
          · rw [Hr2x.out]
            have := HRk.out
            rw [if_pos (show (l2, f2).2 = 0 from hf2)] at this
            exact ⟨(Hkey.out hf2).1, this⟩
          · rw [Hr2x.out]
            have := HRk.out
            rw [if_neg (show ¬ (l2, f2).2 = 0 from hf2)] at this
            rw [show l2 = [] from Hnil.out hf2]
            exact this.symm
        case measure => simp [intOf]; omega
      · obtain rfl : k = m.xs.length := by omega
        rw [List.drop_length] at hRk
        have HRk := hid (show R = (r.xs, 0) from hRk.symm)
        clear hb hv hRk
        go_wp2_with fail
        go_ret2
        rw [HRk.out]
        exact ⟨r, rfl, rfl, HrA.out, Hb.out⟩
    · have hRk := H1.out hf
      have HRk := hid hRk
      have hfb : (f == 0) = false := by simpa using hf
      clear hb hRk hf
      go_wp2_with fail
      all_goals
        go_ret2
        rw [HRk.out]
        exact ⟨r, rfl, rfl, HrA.out, Hb.out⟩
end Go.Proofs.YthjbebngedajiaaDoor
