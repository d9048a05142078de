/-
  THE CONTRACTS of package swap: Some, Lacks, Pair. CONDITIONS: the library's table of the powers of ten reads as it is laid (Tb).
-/
import Derived.Test.YtemhdfodghfkfaaGreatDoorTree3
import Derived.Test.YtemhdfodghfkfaaGreatDoorIKit
import Derived.Test.YtemhdfodghfkfaaGreatDoorCCheck
import Derived.Test.YtemhdfodghfkfaaGreatDoorRowE
namespace Go.Proofs.YtemhdfodghfkfaaGreatDoor
open Go.RowKit
open Go.ChangeShapes Go.WideShapes Go.ChangeAt

def SomeR (w : World) (l : List E) (e : Ending) (w' : World) : Prop := ∃ v, e = .returned v ∧ Ow E.cells 5 w.heap.size 59 w' v l ∧ Below w.heap.size w w'
set_option maxHeartbeats 4000000 in
set_option maxRecDepth 100000 in
theorem some_any (s : SlV E) (K : SlV Int) (w : World) (hs : EsAt w s) (hK : IntsAt w K) (h8 : s.xs.length ≤ 100) :
    Calls Tryz.prog 140 #[.slice s.A s.xs.length s.c, .slice K.A K.xs.length K.c] w (SomeR w (someL s.xs K.xs)) := by
  have HC := hid (fun n W (hW : Below w.heap.size w W) => contains_any K n W (hK.stays0 hW))
  go_enter Tryz.func140, Tryz.ntmps140
  go_wp2_with fail
  go_loopw [5, 10] (fun v i wr => ∃ j : Nat, j ≤ s.xs.length ∧ i = .int .i64 j ∧ Ow E.cells 5 w.heap.size 59 wr v (someL (s.xs.take j) K.xs) ∧ Below w.heap.size w wr) (fun _ i _ => s.xs.length - (intOf i).toNat)
  case atStart => exact ⟨0, Nat.zero_le _, rfl, Ow.nil _ _ _ _ _, Below.refl _ _⟩
  case round =>
    obtain ⟨j, hj, rfl, hO, hbr⟩ := hrel
    have hz0 := hbr.size
    have HO := hid hO
    clear hO
    by_cases hlt : j < s.xs.length
    · obtain ⟨g, off, hA, hg, hcells⟩ := hs.row (by omega)
      obtain ⟨k0, k1, k2, k3, k4⟩ := (hcells j hlt).stays hbr hg
      have htk := take_snocD E.zero hlt
      have hl1 : (someL (s.xs.take j) K.xs).length ≤ 100 := by
        have h1 := some_len (s.xs.take j) K.xs
        rw [List.length_take] at h1
        omega
      have hst : someL (s.xs.take (j + 1)) K.xs = if inL (s.xs.getD j E.zero).key K.xs = true then someL (s.xs.take j) K.xs ++ [s.xs.getD j E.zero] else someL (s.xs.take j) K.xs := by
        rw [htk]
        unfold someL inL
        rw [List.filter_append, List.filter_cons]
        split
        · rw [List.filter_nil]
        · rw [List.filter_nil, List.append_nil]
      generalize s.xs.getD j E.zero = x at *
      generalize someL (s.xs.take j) K.xs = L at *
      obtain ⟨xk, xv, xa, xg, xt⟩ := x
      simp only at k0 k1 k2 k3 k4 hst
      have HCk := hid (HC.out xk)
      have Hbr := hid hbr
      rw [hA]
      clear hA hcells htk hbr
      rcases hin : inL xk K.xs with _ | _
      · rw [hin, if_neg (by decide)] at hst
        rw [hin] at HCk
        have Hst := hid hst
        clear hst hin
        go_wp2_with fail
        refine (HCk.out _ (Hbr.out.alloc hz0 _)).mono ?_
        rintro e w2 ⟨rfl, rfl⟩
        go_wp2_with fail
        go_roundw
        case rel => exact ⟨j + 1, by omega, by go_num, by rw [Hst.out]; exact HO.out.alloc _, Hbr.out.alloc hz0 _⟩
        case measure => simp [intOf]; omega
      · rw [hin, if_pos rfl] at hst
        rw [hin] at HCk
        have Hst := hid hst
        clear hst hin
        go_wp2_with fail
        refine (HCk.out _ (Hbr.out.alloc hz0 _)).mono ?_
        rintro e w2 ⟨rfl, rfl⟩
        go_wp2_with (at_builtin; refine appE _ w.heap.size _ L xk xv xa xg xt (HO.out.alloc _) rfl _ _ rfl rfl rfl ?_ ?_ ?_ ?_)
        any_goals (first | (with_reducible rfl) | omega | exact World.size_alloc _ _ | (show _ ≤ _; rw [World.size_alloc]; omega))
        intro v8 w8 hO8 f8 o8
        have hb8 : Below w.heap.size w w8 := (Hbr.out.alloc hz0 _).trans (f8.below0 (by simp; omega) (fun i hi => HO.out.ge _ hi))
        go_wp2_with fail
        go_roundw
        case rel => exact ⟨j + 1, by omega, by go_num, by rw [Hst.out]; exact hO8, hb8⟩
        case measure => simp [intOf]; omega
    · obtain rfl : j = s.xs.length := by omega
      rw [List.take_length] at HO
      go_wp2_with fail
      go_ret
      exact ⟨_, rfl, HO.out, hbr⟩

def LacksR (w : World) (K : List Int) (en : Int) (e : Ending) (w' : World) : Prop :=
  ∃ q : SlV Int, e = .returned (.tuple #[.slice q.A q.xs.length q.c, errV en]) ∧ (q.xs = K ∧ q.ok) ∧ IntsAt w' q ∧ Below w.heap.size w w'
theorem slacks_any (s m : SlV E) (w : World) (hs : EsAt w s) (hm : EsAt w m) (htb : Tb w) :
    Calls Tryz.prog 138 #[.slice s.A s.xs.length s.c, .slice m.A m.xs.length m.c] w (LacksR w (diffR s.xs m.xs).1.1 (diffR s.xs m.xs).2) := by
  have HD := hid (diff_any s m w hs hm htb)
  generalize (diffR s.xs m.xs).1.1 = K at *
  generalize (diffR s.xs m.xs).1.2 = N at *
  generalize (diffR s.xs m.xs).2 = en at *
  clear hs hm htb
  go_enter Tryz.func138, Tryz.ntmps138
  go_wp2_with fail
  refine HD.out.mono ?_
  rintro e w1 ⟨q, rfl, hqx, hqA, hb1⟩
  have Hqx := hid hqx
  clear hqx
  go_wp2_with fail
  go_ret2
  exact ⟨q, rfl, Hqx.out, hqA, hb1⟩

/-- What a swap of two leaves: both, and the fault. -/
def pairR (a b : List E) : List E × List E × Int :=
  if (diffR a b).2 = 0 then
    (if (allC a (someL b (partT a b 1).1)).2 = 0 then
      (if (allC b (someL a (partT a b 1).1)).2 = 0 then ((allC a (someL b (partT a b 1).1)).1, (allC b (someL a (partT a b 1).1)).1, 0) else ([], [], (allC b (someL a (partT a b 1).1)).2))
     else ([], [], (allC a (someL b (partT a b 1).1)).2))
  else ([], [], (diffR a b).2)
theorem diff_zero {a b : List E} (h0 : (diffR a b).2 = 0) : chkC a = 0 ∧ chkC b = 0 ∧ diffR a b = (partT a b 1, 0) := by
  unfold diffR at h0
  split at h0
  · rename_i h1
    split at h0
    · rename_i h2
      exact ⟨h1, h2, by rw [diffR, if_pos h1, if_pos h2]⟩
    · exact absurd h0 (by assumption)
  · exact absurd h0 (by assumption)
/-- a cache of the call's own -/
def OwnV (w w' : World) (v : Value) (l : List E) : Prop := ∃ y : SlV E, v = .slice y.A y.xs.length y.c ∧ y.xs = l ∧ OwnC w.heap.size w' y
theorem OwnV.nil (w w' : World) : OwnV w w' (.slice none 0 0) [] := ⟨⟨none, 0, []⟩, rfl, rfl, Ow.nil _ _ _ _ _, fun y hy => by cases hy⟩
def PairR (w : World) (r : List E × List E × Int) (e : Ending) (w' : World) : Prop :=
  ∃ v u, e = .returned (.tuple #[v, u, errV r.2.2]) ∧ OwnV w w' v r.1 ∧ OwnV w w' u r.2.1 ∧ Below w.heap.size w w'
set_option maxHeartbeats 4000000 in
set_option maxRecDepth 100000 in
theorem pair_swap (s m : SlV E) (w : World) (hs : EsAt w s) (hm : EsAt w m) (htb : Tb w) :
    Calls Tryz.prog 114 #[.slice s.A s.xs.length s.c, .slice m.A m.xs.length m.c] w (PairR w (pairR s.xs m.xs)) := by
  have HL := hid (slacks_any s m w hs hm htb)
  have HS := hid (fun W (hW : Below w.heap.size w W) => hs.stays hW)
  have HM := hid (fun W (hW : Below w.heap.size w W) => hm.stays hW)
  clear hs hm htb
  unfold pairR
  by_cases h0 : (diffR s.xs m.xs).2 = 0
  case neg =>
    rw [if_neg h0]
    have Hen := hid (errV_ne h0)
    generalize (diffR s.xs m.xs).1.1 = K at *
    generalize (diffR s.xs m.xs).2 = en at *
    clear h0
    go_enter Tryz.func114, Tryz.ntmps114
    go_wp2_with fail
    refine HL.out.mono ?_
    rintro e w1 ⟨q, rfl, ⟨hqx, _⟩, hqA, hb1⟩
    rw [Hen.out]
    clear hqx hqA
    go_wp2_with fail
    refine bodyPost_ret (v := .tuple #[.slice none 0 0, .slice none 0 0, .iface 78 (.int .i64 en)]) ?_ rfl ?_
    · simp [results, Tryz.results114, go_sem]
    · exact ⟨_, _, by rw [Hen.out], OwnV.nil _ _, OwnV.nil _ _, hb1⟩
  case pos =>
  rw [if_pos h0]
  obtain ⟨hva, hvb, hdf⟩ := diff_zero h0
  rw [hdf] at HL
  simp only at HL
  have hla := (val_facts hva).2.2
  have hlb := (val_facts hvb).2.2
  have HSb := hid (fun (q : SlV Int) W (hW : Below w.heap.size w W) hq => some_any m q W (HM.out W hW) hq (by omega))
  have HSa := hid (fun (q : SlV Int) W (hW : Below w.heap.size w W) hq => some_any s q W (HS.out W hW) hq (by omega))
  have HAa := hid (fun (t : SlV E) W (hW : Below w.heap.size w W) ht (hv : chkC t.xs = 0) => call_any s t W (HS.out W hW) ht hva hv)
  have HAb := hid (fun (t : SlV E) W (hW : Below w.heap.size w W) ht (hv : chkC t.xs = 0) => call_any m t W (HM.out W hW) ht hvb hv)
  have hvb2 := some_val hvb (partT s.xs m.xs 1).1
  have hva2 := some_val hva (partT s.xs m.xs 1).1
  have hk1 := (allC_key hva hvb2).2
  have hk2 := (allC_key hvb hva2).2
  generalize partT s.xs m.xs 1 = PP at *
  obtain ⟨K, N⟩ := PP
  simp only at hvb2 hva2 hk1 hk2 HL ⊢
  have Hvb2 := hid hvb2
  have Hva2 := hid hva2
  have Hk1 := hid hk1
  have Hk2 := hid hk2
  clear hva hvb hdf h0 hla hlb hvb2 hva2 hk1 hk2
  by_cases h1 : (allC s.xs (someL m.xs K)).2 = 0
  case neg =>
    rw [if_neg h1]
    have Hen := hid (errV_ne h1)
    generalize hX : allC s.xs (someL m.xs K) = X at *
    have HX := hid hX
    clear h1 hX
    go_enter Tryz.func114, Tryz.ntmps114
    go_wp2_with fail
    refine HL.out.mono ?_
    rintro e w1 ⟨q, rfl, ⟨hqx, _⟩, hqA, hb1⟩
    rw [errV_zero]
    have Hqx := hid hqx
    have Hb1 := hid hb1
    have HSb1 := hid (HSb.out q w1 hb1 hqA)
    clear hqx hqA hb1
    go_wp2_with fail
    refine HSb1.out.mono ?_
    rintro e w2 ⟨v, rfl, hO, hb2⟩
    rw [Hqx.out] at hO
    obtain ⟨t, rfl, htx, htA⟩ := RowV.of_ow hO (val_good Hvb2.out)
    have Htx := hid htx
    have Hb2 := hid (Below.step Hb1.out hb2 Hb1.out.size)
    have HA := hid (HAa.out t w2 Hb2.out htA (by rw [Htx.out]; exact Hvb2.out))
    rw [Htx.out, HX.out] at HA
    clear hO htx htA hb2
    rw [Htx.out]
    go_wp2_with fail
    refine HA.out.mono ?_
    rintro e w3 ⟨u, rfl, hOu, hb3⟩
    rw [Hen.out]
    have Hb3 := hid (Below.step Hb2.out hb3 Hb2.out.size)
    clear hOu hb3
    go_wp2_with fail
    refine bodyPost_ret (v := .tuple #[.slice none 0 0, .slice none 0 0, .iface 78 (.int .i64 X.2)]) ?_ rfl ?_
    · simp [results, Tryz.results114, go_sem]
    · exact ⟨_, _, by rw [Hen.out], OwnV.nil _ _, OwnV.nil _ _, Hb3.out⟩
  case pos =>
  rw [if_pos h1]
  have Hg1 := hid (val_good (Hk1.out h1).1)
  by_cases h2 : (allC m.xs (someL s.xs K)).2 = 0
  case neg =>
    rw [if_neg h2]
    have Hen := hid (errV_ne h2)
    generalize hX : allC s.xs (someL m.xs K) = X at *
    generalize hY : allC m.xs (someL s.xs K) = Y at *
    have HX := hid hX
    have HY := hid hY
    have H1 := hid h1
    clear h1 hX hY h2
    go_enter Tryz.func114, Tryz.ntmps114
    go_wp2_with fail
    refine HL.out.mono ?_
    rintro e w1 ⟨q, rfl, ⟨hqx, _⟩, hqA, hb1⟩
    rw [errV_zero]
    have Hqx := hid hqx
    have Hb1 := hid hb1
    have HSb1 := hid (HSb.out q w1 hb1 hqA)
    have HqA := hid (fun W (hW : Below w1.heap.size w1 W) => hqA.stays0 hW)
    clear hqx hqA hb1
    go_wp2_with fail
    refine HSb1.out.mono ?_
    rintro e w2 ⟨v, rfl, hO, hb2⟩
    rw [Hqx.out] at hO
    obtain ⟨t, rfl, htx, htA⟩ := RowV.of_ow hO (val_good Hvb2.out)
    have Htx := hid htx
    have Hb12 := hid hb2
    have Hb2 := hid (Below.step Hb1.out hb2 Hb1.out.size)
    have HA := hid (HAa.out t w2 Hb2.out htA (by rw [Htx.out]; exact Hvb2.out))
    rw [Htx.out, HX.out, H1.out] at HA
    clear hO htx htA hb2
    rw [Htx.out]
    go_wp2_with fail
    refine HA.out.mono ?_
    rintro e w3 ⟨u, rfl, hOu, hb3⟩
    rw [errV_zero]
    have Hb13 := hid (Below.step Hb12.out hb3 Hb12.out.size)
    have Hb3 := hid (Below.step Hb2.out hb3 Hb2.out.size)
    have HSa3 := hid (HSa.out q w3 Hb3.out (HqA.out _ Hb13.out))
    clear hOu hb3
    go_wp2_with fail
    refine HSa3.out.mono ?_
    rintro e w4 ⟨v2, rfl, hO2, hb4⟩
    rw [Hqx.out] at hO2
    obtain ⟨t2, rfl, htx2, htA2⟩ := RowV.of_ow hO2 (val_good Hva2.out)
    have Htx2 := hid htx2
    have Hb4 := hid (Below.step Hb3.out hb4 Hb3.out.size)
    have HB := hid (HAb.out t2 w4 Hb4.out htA2 (by rw [Htx2.out]; exact Hva2.out))
    rw [Htx2.out, HY.out] at HB
    clear hO2 htx2 htA2 hb4
    rw [Htx2.out]
    go_wp2_with fail
    refine HB.out.mono ?_
    rintro e w5 ⟨u2, rfl, hOu2, hb5⟩
    rw [Hen.out]
    have Hb5 := hid (Below.step Hb4.out hb5 Hb4.out.size)
    clear hOu2 hb5
    go_wp2_with fail
    refine bodyPost_ret (v := .tuple #[.slice none 0 0, .slice none 0 0, .iface 78 (.int .i64 Y.2)]) ?_ rfl ?_
    · simp [results, Tryz.results114, go_sem]
    · exact ⟨_, _, by rw [Hen.out], OwnV.nil _ _, OwnV.nil _ _, Hb5.out⟩
  case pos =>
  rw [if_pos h2]
  have Hg2 := hid (val_good (Hk2.out h2).1)
  generalize hX : allC s.xs (someL m.xs K) = X at *
  generalize hY : allC m.xs (someL s.xs K) = Y at *
  have HX := hid hX
  have HY := hid hY
  have H1 := hid h1
  have H2 := hid h2
  clear h1 hX hY h2
  go_enter Tryz.func114, Tryz.ntmps114
  go_wp2_with fail
  refine HL.out.mono ?_
  rintro e w1 ⟨q, rfl, ⟨hqx, _⟩, hqA, hb1⟩
  rw [errV_zero]
  have Hqx := hid hqx
  have Hb1 := hid hb1
  have HSb1 := hid (HSb.out q w1 hb1 hqA)
  have HqA := hid (fun W (hW : Below w1.heap.size w1 W) => hqA.stays0 hW)
  clear hqx hqA hb1
  go_wp2_with fail
  refine HSb1.out.mono ?_
  rintro e w2 ⟨v, rfl, hO, hb2⟩
  rw [Hqx.out] at hO
  obtain ⟨t, rfl, htx, htA⟩ := RowV.of_ow hO (val_good Hvb2.out)
  have Htx := hid htx
  have Hb12 := hid hb2
  have Hb2 := hid (Below.step Hb1.out hb2 Hb1.out.size)
  have HA := hid (HAa.out t w2 Hb2.out htA (by rw [Htx.out]; exact Hvb2.out))
  rw [Htx.out, HX.out, H1.out] at HA
  clear hO htx htA hb2
  rw [Htx.out]
  go_wp2_with fail
  refine HA.out.mono ?_
  rintro e w3 ⟨u, rfl, hOu, hb3⟩
  rw [errV_zero]
  obtain ⟨p, rfl, hpx, hpA⟩ := OwnC.of_ow (hOu.mono Hb2.out.size) Hg1.out
  have Hpx := hid hpx
  have HpA := hid (fun W (hW : Below w3.heap.size w3 W) => hpA.belowS hW)
  have Hb13 := hid (Below.step Hb12.out hb3 Hb12.out.size)
  have Hb3 := hid (Below.step Hb2.out hb3 Hb2.out.size)
  have HSa3 := hid (HSa.out q w3 Hb3.out (HqA.out _ Hb13.out))
  clear hOu hb3 hpx hpA
  go_wp2_with fail
  refine HSa3.out.mono ?_
  rintro e w4 ⟨v2, rfl, hO2, hb4⟩
  rw [Hqx.out] at hO2
  obtain ⟨t2, rfl, htx2, htA2⟩ := RowV.of_ow hO2 (val_good Hva2.out)
  have Htx2 := hid htx2
  have Hb34 := hid hb4
  have Hb4 := hid (Below.step Hb3.out hb4 Hb3.out.size)
  have HB := hid (HAb.out t2 w4 Hb4.out htA2 (by rw [Htx2.out]; exact Hva2.out))
  rw [Htx2.out, HY.out, H2.out] at HB
  clear hO2 htx2 htA2 hb4
  rw [Htx2.out]
  go_wp2_with fail
  refine HB.out.mono ?_
  rintro e w5 ⟨u2, rfl, hOu2, hb5⟩
  rw [errV_zero]
  obtain ⟨p2, rfl, hpx2, hpA2⟩ := OwnC.of_ow (hOu2.mono Hb4.out.size) Hg2.out
  have Hpx2 := hid hpx2
  have HpA2 := hid hpA2
  have Hb35 := hid (Below.step Hb34.out hb5 Hb34.out.size)
  have Hb5 := hid (Below.step Hb4.out hb5 Hb4.out.size)
  clear hOu2 hb5 hpx2 hpA2
  go_wp2_with fail
  refine bodyPost_ret (v := .tuple #[.slice p.A p.xs.length p.c, .slice p2.A p2.xs.length p2.c, .nilIface]) ?_ rfl ?_
  · simp [results, Tryz.results114, go_sem]
  · exact ⟨_, _, by rw [errV_zero], ⟨p, rfl, Hpx.out, HpA.out _ Hb35.out⟩, ⟨p2, rfl, Hpx2.out, HpA2.out⟩, Hb5.out⟩
end Go.Proofs.YtemhdfodghfkfaaGreatDoor
