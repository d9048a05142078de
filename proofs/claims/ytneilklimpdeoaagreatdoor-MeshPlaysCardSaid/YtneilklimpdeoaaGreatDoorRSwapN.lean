/-
  THE CONTRACTS of the references mereref1.All and mereref2.Swap over caches of the call's own: where the results lie. CONDITIONS: caches that are right (Swap).
-/
import Derived.Test.YtneilklimpdeoaaGreatDoorRSwap
import Derived.Test.YtneilklimpdeoaaGreatDoorRowE
namespace Go.Proofs.YtneilklimpdeoaaGreatDoor
open Go.RowKit
open Go.ChangeShapes Go.WideShapes Go.ChangeAt

/-- a cache lies where another one lay, or in new memory -/
def NearE (w : World) (s r : SlV E) : Prop := ∀ i, foot r.val = some i → foot s.val = some i ∨ w.heap.size ≤ i
theorem NearE.refl (w : World) (s : SlV E) : NearE w s s := fun _ h => .inl h
theorem NearE.up {w w1 : World} {s r : SlV E} (h : NearE w1 s r) (hb : w.heap.size ≤ w1.heap.size) : NearE w s r := fun i hi => (h i hi).imp (fun h => h) (fun h => Nat.le_trans hb h)
def RLAt (base : Nat) (w : World) (s : SlV E) (r : List E × Int) (e : Ending) (w' : World) : Prop :=
  ∃ q : SlV E, e = .returned (.tuple #[.slice q.A q.xs.length q.c, .int .i64 r.2]) ∧ q.xs = r.1 ∧ OwnC base w' q ∧ NearE w s q ∧ Below w.heap.size w w'
set_option maxHeartbeats 4000000 in
set_option maxRecDepth 100000 in
theorem rall_at (base : Nat) (s m : SlV E) (w : World) (hB : base ≤ w.heap.size) (hs : OwnC base w s) (hm : EsAt w m) (hvs : chkC s.xs = 0) (hvm : chkC m.xs = 0) :
    Calls Tryz.prog 46 #[.slice s.A s.xs.length s.c, .slice m.A m.xs.length m.c] w (RLAt base w s (allC s.xs m.xs)) := by
  obtain ⟨_, _, hm8⟩ := val_facts hvm
  have Hvs := hid hvs
  have Hvm := hid hvm
  have Hs := hid hs
  generalize hR : allC s.xs m.xs = R
  have HR := hid hR
  clear hR hvs hvm hs
  go_enter Tryz.func46, Tryz.ntmps46
  go_wp2_with fail
  go_loopw [0, 6, 7] (fun u fv i wr => ∃ (k : Nat) (r : SlV E) (f : Int), k ≤ m.xs.length ∧ u = .slice r.A r.xs.length r.c ∧ fv = .int .i64 f ∧ i = .int .i64 k ∧ OwnC base wr r ∧ NearE w s r ∧ (f = 0 → chkC r.xs = 0 ∧ allC r.xs (m.xs.drop k) = R) ∧ (f ≠ 0 → R = (r.xs, f)) ∧ Below w.heap.size w wr) (fun _ _ i _ => m.xs.length - (intOf i).toNat)
  case atStart => exact ⟨0, s, 0, Nat.zero_le _, rfl, rfl, rfl, Hs.out, NearE.refl _ _, (fun _ => ⟨Hvs.out, HR.out⟩), (fun h => absurd rfl h), Below.refl _ _⟩
  case round =>
    obtain ⟨k, r, f, hk, rfl, rfl, rfl, hrA, hrN, h0, h1, hb⟩ := hrel
    have HrA := hid hrA
    have HrN := hid hrN
    have HB0 := hid (show base ≤ wr.heap.size from Nat.le_trans hB hb.size)
    have H0 := hid h0
    have H1 := hid h1
    have Hb := hid hb
    have hzb := hb.size
    clear hrA hrN h0 h1
    by_cases hf : f = 0
    · subst hf
      obtain ⟨hv, hRk⟩ := H0.out rfl
      by_cases hlt : k < m.xs.length
      · obtain ⟨g, off, hA, hgl, hcells⟩ := hm.row (by omega)
        obtain ⟨k0, k1, k2, k3, k4⟩ := (hcells k hlt).stays hb hgl
        have hych := (val_iff.1 Hvm.out).2 _ (getD_memD E.zero hlt)
        rw [drop_consD E.zero hlt, allC] at hRk
        rw [hA]
        generalize m.xs.getD k E.zero = y at *
        obtain ⟨y0, y1, y2, y3, y4⟩ := y
        simp only at k0 k1 k2 k3 k4
        have HAd := hid (radd_any r y0 y1 y2 y3 y4 wr HrA.out.es (val_facts hv).2.2)
        rw [radd_addC hv] at HAd
        have hkey := (addC_key hv hych).2
        have hnil := addC_nil (l := r.xs) (e := ⟨y0, y1, y2, y3, y4⟩)
        generalize addC r.xs ⟨y0, y1, y2, y3, y4⟩ = A at *
        obtain ⟨l2, f2⟩ := A
        have Hkey := hid hkey
        have HRk := hid hRk
        have Hnil := hid hnil
        clear hcells hA hych hb hv hkey hRk hnil
        go_wp2_with fail
        refine HAd.out.mono ?_
        rintro e w2 ⟨v2, rfl, hOw2, hb2⟩
        have hl2g : ∀ e ∈ l2, e.good := by
          by_cases hf2 : f2 = 0
          · exact val_good (Hkey.out hf2).1
          · rw [show l2 = [] from Hnil.out hf2]
            simp
        obtain ⟨r2, rfl, hr2x, hr2A⟩ := OwnC.of_ow (hOw2.mono HB0.out) hl2g
        have Hr2N := hid (show NearE w s r2 from fun i hi => .inr (Nat.le_trans hzb (hOw2.ge i hi.symm)))
        have Hb2 := hid (Below.step Hb.out hb2 hzb)
        have Hr2x := hid hr2x
        have Hr2A := hid hr2A
        clear hr2x hr2A hOw2 hb2
        go_wp2_with fail
        go_roundw
        case rel =>
          refine ⟨k + 1, r2, f2, by omega, rfl, rfl, by go_num, Hr2A.out, Hr2N.out, (fun hf2 => ?_), (fun hf2 => ?_), Hb2.out⟩
          · rw [Hr2x.out]
            have := HRk.out
            rw [if_pos (show (l2, f2).2 = 0 from hf2)] at this
            exact ⟨(Hkey.out hf2).1, this⟩
          · rw [Hr2x.out]
            have := HRk.out
            rw [if_neg (show ¬ (l2, f2).2 = 0 from hf2)] at this
            rw [show l2 = [] from Hnil.out hf2]
            exact this.symm
        case measure => simp [intOf]; omega
      · obtain rfl : k = m.xs.length := by omega
        rw [List.drop_length] at hRk
        have HRk := hid (show R = (r.xs, 0) from hRk.symm)
        clear hb hv hRk
        go_wp2_with fail
        go_ret2
        rw [HRk.out]
        exact ⟨r, rfl, rfl, HrA.out, HrN.out, Hb.out⟩
    · have hRk := H1.out hf
      have HRk := hid hRk
      have hfb : (f == 0) = false := by simpa using hf
      clear hb hRk hf
      go_wp2_with fail
      all_goals
        go_ret2
        rw [HRk.out]
        exact ⟨r, rfl, rfl, HrA.out, HrN.out, Hb.out⟩
/-- what a swap without a clash leaves -/
def RPairAt (base : Nat) (w : World) (s m : SlV E) (r : List E × List E × Int) (e : Ending) (w' : World) : Prop :=
  ∃ p q : SlV E, e = .returned (.tuple #[.slice p.A p.xs.length p.c, .slice q.A q.xs.length q.c, .int .i64 0]) ∧ p.xs = r.1 ∧ q.xs = r.2.1 ∧ OwnC base w' p ∧ OwnC base w' q ∧ NearE w s p ∧ NearE w m q ∧ Below w.heap.size w w'
set_option maxHeartbeats 4000000 in
set_option maxRecDepth 100000 in
theorem rpair_at (base : Nat) (s m : SlV E) (w : World) (hB : base ≤ w.heap.size) (hs : OwnC base w s) (hm : OwnC base w m) (hva : chkC s.xs = 0) (hvb : chkC m.xs = 0) (h1 : (allC s.xs (someL m.xs (partT s.xs m.xs 1).1)).2 = 0) (h2 : (allC m.xs (someL s.xs (partT s.xs m.xs 1).1)).2 = 0) :
    Calls Tryz.prog 33 #[.slice s.A s.xs.length s.c, .slice m.A m.xs.length m.c] w (RPairAt base w s m (pairR s.xs m.xs)) := by
  have HL := hid (rpart_any s m hva hvb 16 1 (by omega) (by omega) (by omega) w hs.es hm.es)
  have HS := hid (fun W (hW : Below w.heap.size w W) => hs.belowS hW)
  have HM := hid (fun W (hW : Below w.heap.size w W) => hm.belowS hW)
  have HB := hid (fun W (hW : Below w.heap.size w W) => Nat.le_trans hB hW.size)
  clear hs hm hB
  unfold pairR
  rw [if_pos (show (diffR s.xs m.xs).2 = 0 by rw [diffR, if_pos hva, if_pos hvb])]
  have hla := (val_facts hva).2.2
  have hlb := (val_facts hvb).2.2
  have HSb := hid (fun (q : SlV Int) W (hW : Below w.heap.size w W) hq => rsome_any m q W (HM.out W hW).es hq (by omega))
  have HSa := hid (fun (q : SlV Int) W (hW : Below w.heap.size w W) hq => rsome_any s q W (HS.out W hW).es hq (by omega))
  have HAa := hid (fun (t : SlV E) W (hW : Below w.heap.size w W) ht (hv : chkC t.xs = 0) => rall_at base s t W (HB.out W hW) (HS.out W hW) ht hva hv)
  have HAb := hid (fun (t : SlV E) W (hW : Below w.heap.size w W) ht (hv : chkC t.xs = 0) => rall_at base m t W (HB.out W hW) (HM.out W hW) ht hvb hv)
  have hvb2 := some_val hvb (partT s.xs m.xs 1).1
  have hva2 := some_val hva (partT s.xs m.xs 1).1
  generalize partT s.xs m.xs 1 = PP at *
  obtain ⟨K, N⟩ := PP
  simp only at hvb2 hva2 HL h1 h2 ⊢
  have Hvb2 := hid hvb2
  have Hva2 := hid hva2
  clear hva hvb hla hlb hvb2 hva2
  rw [if_pos h1, if_pos h2]
  generalize hX : allC s.xs (someL m.xs K) = X at *
  generalize hY : allC m.xs (someL s.xs K) = Y at *
  have HX := hid hX
  have HY := hid hY
  have H1 := hid h1
  have H2 := hid h2
  clear h1 hX hY h2
  go_enter Tryz.func33, Tryz.ntmps33
  go_wp2_with fail
  refine HL.out.mono ?_
  rintro e w1 ⟨q, rfl, hqx, hqA, hb1⟩
  have Hqx := hid hqx
  have Hb1 := hid hb1
  have HSb1 := hid (HSb.out q w1 hb1 hqA)
  have HqA := hid (fun W (hW : Below w1.heap.size w1 W) => hqA.stays0 hW)
  clear hqx hqA hb1
  go_wp2_with fail
  refine HSb1.out.mono ?_
  rintro e w2 ⟨v, rfl, hO, hb2⟩
  rw [Hqx.out] at hO
  obtain ⟨t, rfl, htx, htA⟩ := RowV.of_ow hO (val_good Hvb2.out)
  have Htx := hid htx
  have Hb12 := hid hb2
  have Hb2 := hid (Below.step Hb1.out hb2 Hb1.out.size)
  have HA := hid (HAa.out t w2 Hb2.out htA (by rw [Htx.out]; exact Hvb2.out))
  rw [Htx.out, HX.out] at HA
  clear hO htx htA hb2
  rw [Htx.out]
  go_wp2_with fail
  refine HA.out.mono ?_
  rintro e w3 ⟨p, rfl, hpx, hpA, hpN, hb3⟩
  rw [H1.out]
  have Hpx := hid hpx
  have HpN := hid (hpN.up Hb2.out.size)
  have HpA := hid (fun W (hW : Below w3.heap.size w3 W) => hpA.belowS hW)
  have Hb13 := hid (Below.step Hb12.out hb3 Hb12.out.size)
  have Hb3 := hid (Below.step Hb2.out hb3 Hb2.out.size)
  have HSa3 := hid (HSa.out q w3 Hb3.out (HqA.out _ Hb13.out))
  clear hb3 hpx hpA hpN
  go_wp2_with fail
  refine HSa3.out.mono ?_
  rintro e w4 ⟨v2, rfl, hO2, hb4⟩
  rw [Hqx.out] at hO2
  obtain ⟨t2, rfl, htx2, htA2⟩ := RowV.of_ow hO2 (val_good Hva2.out)
  have Htx2 := hid htx2
  have Hb34 := hid hb4
  have Hb4 := hid (Below.step Hb3.out hb4 Hb3.out.size)
  have HB4 := hid (HAb.out t2 w4 Hb4.out htA2 (by rw [Htx2.out]; exact Hva2.out))
  rw [Htx2.out, HY.out] at HB4
  clear hO2 htx2 htA2 hb4
  rw [Htx2.out]
  go_wp2_with fail
  refine HB4.out.mono ?_
  rintro e w5 ⟨p2, rfl, hpx2, hpA2, hpN2, hb5⟩
  rw [H2.out]
  have Hpx2 := hid hpx2
  have HpA2 := hid hpA2
  have HpN2 := hid (hpN2.up Hb4.out.size)
  have Hb35 := hid (Below.step Hb34.out hb5 Hb34.out.size)
  have Hb5 := hid (Below.step Hb4.out hb5 Hb4.out.size)
  clear hb5 hpx2 hpA2 hpN2
  go_wp2_with fail
  refine bodyPost_ret (v := .tuple #[.slice p.A p.xs.length p.c, .slice p2.A p2.xs.length p2.c, .int .i64 0]) (by simp [results, Tryz.results33, go_sem]) rfl ?_
  exact ⟨p, p2, rfl, Hpx.out, Hpx2.out, HpA.out _ Hb35.out, HpA2.out, HpN.out, HpN2.out, Hb5.out⟩
end Go.Proofs.YtneilklimpdeoaaGreatDoor
