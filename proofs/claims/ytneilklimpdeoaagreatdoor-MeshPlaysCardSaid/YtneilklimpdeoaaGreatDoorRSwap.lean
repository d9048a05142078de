/-
  THE CONTRACTS of the references mereref2.Some and Swap. CONDITIONS: caches that are right (Swap).
-/
import Derived.Test.YtneilklimpdeoaaGreatDoorSwap
import Derived.Test.YtneilklimpdeoaaGreatDoorRTree
import Derived.Test.YtneilklimpdeoaaGreatDoorRAll
namespace Go.Proofs.YtneilklimpdeoaaGreatDoor
open Go.RowKit
open Go.ChangeShapes Go.WideShapes Go.ChangeAt

set_option maxHeartbeats 4000000 in
set_option maxRecDepth 100000 in
theorem rsome_any (s : SlV E) (K : SlV Int) (w : World) (hs : EsAt w s) (hK : IntsAt w K) (h8 : s.xs.length ≤ 100) :
    Calls Tryz.prog 47 #[.slice s.A s.xs.length s.c, .slice K.A K.xs.length K.c] w (SomeR w (someL s.xs K.xs)) := by
  have HC := hid (fun n W (hW : Below w.heap.size w W) => in_any K n W (hK.stays0 hW))
  go_enter Tryz.func47, Tryz.ntmps47
  go_wp2_with fail
  go_loopw [5, 6] (fun v i wr => ∃ j : Nat, j ≤ s.xs.length ∧ i = .int .i64 j ∧ Ow E.cells 5 w.heap.size 46 wr v (someL (s.xs.take j) K.xs) ∧ Below w.heap.size w wr) (fun _ i _ => s.xs.length - (intOf i).toNat)
  case atStart => exact ⟨0, Nat.zero_le _, rfl, Ow.nil _ _ _ _ _, Below.refl _ _⟩
  case round =>
    obtain ⟨j, hj, rfl, hO, hbr⟩ := hrel
    have hz0 := hbr.size
    have HO := hid hO
    clear hO
    by_cases hlt : j < s.xs.length
    · obtain ⟨g, off, hA, hg, hcells⟩ := hs.row (by omega)
      obtain ⟨k0, k1, k2, k3, k4⟩ := (hcells j hlt).stays hbr hg
      have htk := take_snocD E.zero hlt
      have hl1 : (someL (s.xs.take j) K.xs).length ≤ 100 := by
        have h1 := some_len (s.xs.take j) K.xs
        rw [List.length_take] at h1
        omega
      have hst : someL (s.xs.take (j + 1)) K.xs = if inL (s.xs.getD j E.zero).key K.xs = true then someL (s.xs.take j) K.xs ++ [s.xs.getD j E.zero] else someL (s.xs.take j) K.xs := by
        rw [htk]
        unfold someL inL
        rw [List.filter_append, List.filter_cons]
        split
        · rw [List.filter_nil]
        · rw [List.filter_nil, List.append_nil]
      generalize s.xs.getD j E.zero = x at *
      generalize someL (s.xs.take j) K.xs = L at *
      obtain ⟨xk, xv, xa, xg, xt⟩ := x
      simp only at k0 k1 k2 k3 k4 hst
      have HCk := hid (HC.out xk)
      have Hbr := hid hbr
      rw [hA]
      clear hA hcells htk hbr
      rcases hin : inL xk K.xs with _ | _
      · rw [hin, if_neg (by decide)] at hst
        rw [hin] at HCk
        have Hst := hid hst
        clear hst hin
        go_wp2_with fail
        refine (HCk.out _ Hbr.out).mono ?_
        rintro e w2 ⟨rfl, rfl⟩
        go_wp2_with fail
        go_roundw
        case rel => exact ⟨j + 1, by omega, by go_num, by rw [Hst.out]; exact HO.out, Hbr.out⟩
        case measure => simp [intOf]; omega
      · rw [hin, if_pos rfl] at hst
        rw [hin] at HCk
        have Hst := hid hst
        clear hst hin
        go_wp2_with fail
        refine (HCk.out _ Hbr.out).mono ?_
        rintro e w2 ⟨rfl, rfl⟩
        go_wp2_with (at_builtin; refine appE _ w.heap.size _ L xk xv xa xg xt HO.out rfl _ _ rfl rfl rfl ?_ ?_ ?_ ?_)
        any_goals (first | (with_reducible rfl) | omega | exact World.size_alloc _ _ | (show _ ≤ _; rw [World.size_alloc]; omega))
        intro v8 w8 hO8 f8 o8
        have hb8 : Below w.heap.size w w8 := Hbr.out.trans (f8.below0 hz0 (fun i hi => HO.out.ge _ hi))
        go_wp2_with fail
        go_roundw
        case rel => exact ⟨j + 1, by omega, by go_num, by rw [Hst.out]; exact hO8, hb8⟩
        case measure => simp [intOf]; omega
    · obtain rfl : j = s.xs.length := by omega
      rw [List.take_length] at HO
      go_wp2_with fail
      go_ret
      exact ⟨_, rfl, HO.out, hbr⟩

/-- What the reference's swap leaves. -/
def RPairR (w : World) (r : List E × List E × Int) (e : Ending) (w' : World) : Prop :=
  ∃ v u, e = .returned (.tuple #[v, u, .int .i64 r.2.2]) ∧ RowV w' v r.1 ∧ RowV w' u r.2.1 ∧ Below w.heap.size w w'
set_option maxHeartbeats 4000000 in
set_option maxRecDepth 100000 in
theorem rswp_any (s m : SlV E) (w : World) (hs : EsAt w s) (hm : EsAt w m) (hva : chkC s.xs = 0) (hvb : chkC m.xs = 0) :
    Calls Tryz.prog 33 #[.slice s.A s.xs.length s.c, .slice m.A m.xs.length m.c] w (RPairR w (pairR s.xs m.xs)) := by
  have HL := hid (rpart_any s m hva hvb 16 1 (by omega) (by omega) (by omega) w hs hm)
  have HS := hid (fun W (hW : Below w.heap.size w W) => hs.stays hW)
  have HM := hid (fun W (hW : Below w.heap.size w W) => hm.stays hW)
  clear hs hm
  unfold pairR
  rw [if_pos (show (diffR s.xs m.xs).2 = 0 by rw [diffR, if_pos hva, if_pos hvb])]
  have hla := (val_facts hva).2.2
  have hlb := (val_facts hvb).2.2
  have HSb := hid (fun (q : SlV Int) W (hW : Below w.heap.size w W) hq => rsome_any m q W (HM.out W hW) hq (by omega))
  have HSa := hid (fun (q : SlV Int) W (hW : Below w.heap.size w W) hq => rsome_any s q W (HS.out W hW) hq (by omega))
  have HAa := hid (fun (t : SlV E) W (hW : Below w.heap.size w W) ht (hv : chkC t.xs = 0) => rall_any s t W (HS.out W hW) ht hva hv)
  have HAb := hid (fun (t : SlV E) W (hW : Below w.heap.size w W) ht (hv : chkC t.xs = 0) => rall_any m t W (HM.out W hW) ht hvb hv)
  have hvb2 := some_val hvb (partT s.xs m.xs 1).1
  have hva2 := some_val hva (partT s.xs m.xs 1).1
  generalize partT s.xs m.xs 1 = PP at *
  obtain ⟨K, N⟩ := PP
  simp only at hvb2 hva2 HL ⊢
  have Hvb2 := hid hvb2
  have Hva2 := hid hva2
  clear hva hvb hla hlb hvb2 hva2
  by_cases h1 : (allC s.xs (someL m.xs K)).2 = 0
  case neg =>
    rw [if_neg h1]
    have hcb : ((allC s.xs (someL m.xs K)).2 != 0) = true := by rw [bne_iff_ne]; exact h1
    generalize hX : allC s.xs (someL m.xs K) = X at *
    have HX := hid hX
    clear h1 hX
    go_enter Tryz.func33, Tryz.ntmps33
    go_wp2_with fail
    refine HL.out.mono ?_
    rintro e w1 ⟨q, rfl, hqx, hqA, hb1⟩
    have Hqx := hid hqx
    have Hb1 := hid hb1
    have HSb1 := hid (HSb.out q w1 hb1 hqA)
    clear hqx hqA hb1
    go_wp2_with fail
    refine HSb1.out.mono ?_
    rintro e w2 ⟨v, rfl, hO, hb2⟩
    rw [Hqx.out] at hO
    obtain ⟨t, rfl, htx, htA⟩ := RowV.of_ow hO (val_good Hvb2.out)
    have Htx := hid htx
    have Hb2 := hid (Below.step Hb1.out hb2 Hb1.out.size)
    have HA := hid (HAa.out t w2 Hb2.out htA (by rw [Htx.out]; exact Hvb2.out))
    rw [Htx.out, HX.out] at HA
    clear hO htx htA hb2
    rw [Htx.out]
    go_wp2_with fail
    refine HA.out.mono ?_
    rintro e w3 ⟨u, rfl, _, _, hb3⟩
    have Hb3 := hid (Below.step Hb2.out hb3 Hb2.out.size)
    clear hb3
    go_wp2_with fail
    refine bodyPost_ret (v := .tuple #[.slice none 0 0, .slice none 0 0, .int .i64 X.2]) ?_ rfl ?_
    · simp [results, Tryz.results33, go_sem]
    · exact ⟨_, _, rfl, RowV.nil _, RowV.nil _, Hb3.out⟩
  case pos =>
  rw [if_pos h1]
  by_cases h2 : (allC m.xs (someL s.xs K)).2 = 0
  all_goals
    first
      | (rw [if_neg h2]; have hcb : ((allC m.xs (someL s.xs K)).2 != 0) = true := by rw [bne_iff_ne]; exact h2)
      | (rw [if_pos h2]; have hcb : ((allC m.xs (someL s.xs K)).2 != 0) = false := by rw [h2]; rfl)
    generalize hX : allC s.xs (someL m.xs K) = X at *
    generalize hY : allC m.xs (someL s.xs K) = Y at *
    have HX := hid hX
    have HY := hid hY
    have H1 := hid h1
    clear h1 hX hY h2
    go_enter Tryz.func33, Tryz.ntmps33
    go_wp2_with fail
    refine HL.out.mono ?_
    rintro e w1 ⟨q, rfl, hqx, hqA, hb1⟩
    have Hqx := hid hqx
    have Hb1 := hid hb1
    have HSb1 := hid (HSb.out q w1 hb1 hqA)
    have HqA := hid (fun W (hW : Below w1.heap.size w1 W) => hqA.stays0 hW)
    clear hqx hqA hb1
    go_wp2_with fail
    refine HSb1.out.mono ?_
    rintro e w2 ⟨v, rfl, hO, hb2⟩
    rw [Hqx.out] at hO
    obtain ⟨t, rfl, htx, htA⟩ := RowV.of_ow hO (val_good Hvb2.out)
    have Htx := hid htx
    have Hb12 := hid hb2
    have Hb2 := hid (Below.step Hb1.out hb2 Hb1.out.size)
    have HA := hid (HAa.out t w2 Hb2.out htA (by rw [Htx.out]; exact Hvb2.out))
    rw [Htx.out, HX.out] at HA
    clear hO htx htA hb2
    rw [Htx.out]
    go_wp2_with fail
    refine HA.out.mono ?_
    rintro e w3 ⟨p, rfl, hpx, hpA, hb3⟩
    rw [H1.out]
    have Hpx := hid hpx
    have HpA := hid (fun W (hW : Below w3.heap.size w3 W) => hpA.stays hW)
    have Hb13 := hid (Below.step Hb12.out hb3 Hb12.out.size)
    have Hb3 := hid (Below.step Hb2.out hb3 Hb2.out.size)
    have HSa3 := hid (HSa.out q w3 Hb3.out (HqA.out _ Hb13.out))
    clear hb3 hpx hpA
    go_wp2_with fail
    refine HSa3.out.mono ?_
    rintro e w4 ⟨v2, rfl, hO2, hb4⟩
    rw [Hqx.out] at hO2
    obtain ⟨t2, rfl, htx2, htA2⟩ := RowV.of_ow hO2 (val_good Hva2.out)
    have Htx2 := hid htx2
    have Hb34 := hid hb4
    have Hb4 := hid (Below.step Hb3.out hb4 Hb3.out.size)
    have HB := hid (HAb.out t2 w4 Hb4.out htA2 (by rw [Htx2.out]; exact Hva2.out))
    rw [Htx2.out, HY.out] at HB
    clear hO2 htx2 htA2 hb4
    rw [Htx2.out]
    go_wp2_with fail
    refine HB.out.mono ?_
    rintro e w5 ⟨p2, rfl, hpx2, hpA2, hb5⟩
    have Hpx2 := hid hpx2
    have HpA2 := hid hpA2
    have Hb35 := hid (Below.step Hb34.out hb5 Hb34.out.size)
    have Hb5 := hid (Below.step Hb4.out hb5 Hb4.out.size)
    clear hb5 hpx2 hpA2
    go_wp2_with fail
    first
      | (refine bodyPost_ret (v := .tuple #[.slice p.A p.xs.length p.c, .slice p2.A p2.xs.length p2.c, .int .i64 0]) (by simp [results, Tryz.results33, go_sem]) rfl ?_; exact ⟨_, _, rfl, ⟨p, rfl, Hpx.out, HpA.out _ Hb35.out⟩, ⟨p2, rfl, Hpx2.out, HpA2.out⟩, Hb5.out⟩)
      | (refine bodyPost_ret (v := .tuple #[.slice none 0 0, .slice none 0 0, .int .i64 Y.2]) (by simp [results, Tryz.results33, go_sem]) rfl ?_; exact ⟨_, _, rfl, RowV.nil _, RowV.nil _, Hb5.out⟩)
end Go.Proofs.YtneilklimpdeoaaGreatDoor
