/-
  THE CONTRACT of swap.Give. CONDITIONS: none.
-/
import Derived.Test.YthjbebngedajiaaDoorSwap
namespace Go.Proofs.YthjbebngedajiaaDoor
open Go.RowKit
open Go.ChangeShapes Go.WideShapes Go.ChangeAt

/-- What is wrong with keys, those ahead of them known. -/
def giveK : List Int → List Int → Int
  | _, [] => 0
  | p, k :: r => if keyB k = true then (if inL k p = true then 7 else giveK (p ++ [k]) r) else 1
def giveE (l : List E) (K : List Int) : Int := if chkC l = 0 then (if 8 < K.length then 4 else giveK [] K) else chkC l
def giveL (l : List E) (K : List Int) : List E := if giveE l K = 0 then someL l K else []
theorem IntsAt.pre {w : World} {s : SlV Int} (h : IntsAt w s) (j : Nat) (hj : j ≤ s.xs.length) : IntsAt w ⟨s.A, s.c, s.xs.take j⟩ := ⟨fun h0 => by
    have hl : (s.xs.take j).length = j := by rw [List.length_take]; omega
    have h0' : 0 < (s.xs.take j).length := h0
    obtain ⟨b, off, h1, h2, h3⟩ := h.row (by omega)
    refine ⟨b, off, h1, h2, fun i hi => ?_⟩
    have hi' : i < (s.xs.take j).length := hi
    rw [h3 i (by omega)]
    show some (Value.int .i64 (s.xs.getD i 0)) = some (Value.int .i64 ((s.xs.take j).getD i 0))
    rw [List.getD_eq_getElem?_getD, List.getD_eq_getElem?_getD, List.getElem?_take_of_lt (by omega)], by
    have := h.len
    have h1 : (s.xs.take j).length ≤ s.xs.length := by rw [List.length_take]; omega
    exact Nat.le_trans h1 this⟩
def GiveR (w : World) (l : List E) (en : Int) (e : Ending) (w' : World) : Prop :=
  ∃ v, e = .returned (.tuple #[v, errV en]) ∧ RowV w' v l ∧ Below w.heap.size w w'

set_option maxHeartbeats 4000000 in
set_option maxRecDepth 100000 in
theorem give_any (s : SlV E) (K : SlV Int) (w : World) (hs : EsAt w s) (hK : IntsAt w K) (hok : K.ok) :
    Calls Tryd.prog 44 #[.slice s.A s.xs.length s.c, .slice K.A K.xs.length K.c] w (GiveR w (giveL s.xs K.xs) (giveE s.xs K.xs)) := by
  have HC := hid (ccheck_any s w hs.entries)
  have hkl := hK.len
  obtain ⟨hkc, hkm⟩ := hok
  unfold maxLen at hkl hkm
  by_cases hc : chkC s.xs = 0
  case neg =>
    rw [giveL, if_neg (show ¬ giveE s.xs K.xs = 0 by rw [giveE, if_neg hc]; exact hc), giveE, if_neg hc]
    rw [errV_ne hc] at HC
    have Hen := hid (errV_ne hc)
    generalize chkC s.xs = en at *
    clear hc hs hK
    go_enter Tryd.func44, Tryd.ntmps44
    go_wp2_with fail
    refine HC.out.mono ?_
    rintro e w1 ⟨rfl, hb1⟩
    go_wp2_with fail
    go_ret2
    exact ⟨.slice none 0 0, by rw [Hen.out]; rfl, RowV.nil _, hb1⟩
  case pos =>
  rw [show errV (chkC s.xs) = .nilIface by rw [hc]; rfl] at HC
  have hvs := (val_facts hc).2.2
  have HG := hid (val_good (some_val hc K.xs))
  by_cases h8 : 8 < K.xs.length
  · have h8' : (8 : Int) < (K.xs.length : Int) := by omega
    rw [giveL, if_neg (show ¬ giveE s.xs K.xs = 0 by rw [giveE, if_pos hc, if_pos h8]; decide), giveE, if_pos hc, if_pos h8]
    clear hc hs hK h8
    go_enter Tryd.func44, Tryd.ntmps44
    go_wp2_with fail
    refine HC.out.mono ?_
    rintro e w1 ⟨rfl, hb1⟩
    go_wp2_with fail
    go_ret2
    exact ⟨_, rfl, RowV.nil _, hb1⟩
  · have h8' : decide ((8 : Int) < (K.xs.length : Int)) = false := by simp; omega
    rw [giveL, show giveE s.xs K.xs = giveK [] K.xs by rw [giveE, if_pos hc, if_neg h8]]
    have HSo := hid (fun W (hW : Below w.heap.size w W) => some_any s K W (hs.stays hW) (hK.stays0 hW) (by omega))
    have HK := hid (fun W (hW : Below w.heap.size w W) => hK.stays0 hW)
    generalize hR : giveK [] K.xs = R
    have HR := hid hR
    obtain ⟨L, hL⟩ : ∃ L, L = (if R = 0 then someL s.xs K.xs else []) := ⟨_, rfl⟩
    rw [← hL]
    have HL := hid hL
    clear hc hs hK hR hL
    go_enter Tryd.func44, Tryd.ntmps44
    go_wp2_with fail
    refine HC.out.mono ?_
    rintro e w1 ⟨rfl, hb1⟩
    have Hb1 := hid hb1
    clear hb1
    go_wp2_with fail
    go_loopw [20] (fun i wr => ∃ j : Nat, j ≤ K.xs.length ∧ i = .int .i64 j ∧ giveK (K.xs.take j) (K.xs.drop j) = R ∧ Below w.heap.size w wr) (fun i _ => K.xs.length - (intOf i).toNat)
    case atStart => exact ⟨0, Nat.zero_le _, rfl, HR.out, Hb1.out⟩
    case round =>
      obtain ⟨j, hj, rfl, hkr, hbr⟩ := hrel
      clear Hb1
      have Hb1 := hid hbr
      clear hbr
      by_cases hlt : j < K.xs.length
      · have hKA := HK.out _ Hb1.out
        obtain ⟨b, off, hA, hb, hcs⟩ := hKA.row (by omega)
        have hcell := hcs j hlt
        have htk := take_snocD 0 hlt
        have hd := drop_consD 0 hlt
        have hpre := hKA.pre j hj
        have hlp : (K.xs.take j).length = j := by rw [List.length_take]; omega
        have HCo := hid (contains_any ⟨K.A, K.c, K.xs.take j⟩ (K.xs.getD j 0) _ hpre)
        simp only at HCo
        rw [hlp] at HCo
        rw [hd, giveK] at hkr
        rw [hA] at HCo
        generalize K.xs.getD j 0 = k at *
        rw [hA]
        have Hkr := hid hkr
        have Htk := hid htk
        clear hA hcs hKA hpre hd hlp hkr htk
        rcases hk : keyB k with _ | _
        · have HKr := hid (show (1 : Int) = R by rw [← Hkr.out, if_neg (by rw [hk]; decide)])
          have Hk := hid hk
          clear hk
          go_wp2_with ((go_at_call 60; refine (key_any _ _).mono ?_; rintro e w' ⟨rfl, rfl⟩); rw [Hk.out])
          go_ret2
          exact ⟨_, by rw [← HKr.out]; rfl, by rw [HL.out, ← HKr.out, if_neg (by decide)]; exact RowV.nil _, Hb1.out⟩
        · have Hk := hid hk
          rcases hin : inL k (K.xs.take j) with _ | _
          · rw [hin] at HCo
            have HKr := hid (show giveK (K.xs.take (j + 1)) (K.xs.drop (j + 1)) = R by rw [Htk.out, ← Hkr.out, if_pos hk, if_neg (by rw [hin]; decide)])
            clear hk hin
            go_wp2_with (first | ((go_at_call 60; refine (key_any _ _).mono ?_; rintro e w' ⟨rfl, rfl⟩); rw [Hk.out]) | (go_at_call 72; refine HCo.out.mono ?_; rintro e w' ⟨rfl, rfl⟩))
            go_roundw
            case rel => exact ⟨j + 1, by omega, by go_num, HKr.out, Hb1.out⟩
            case measure => simp [intOf]; omega
          · rw [hin] at HCo
            have HKr := hid (show (7 : Int) = R by rw [← Hkr.out, if_pos hk, if_pos hin])
            clear hk hin
            go_wp2_with (first | ((go_at_call 60; refine (key_any _ _).mono ?_; rintro e w' ⟨rfl, rfl⟩); rw [Hk.out]) | (go_at_call 72; refine HCo.out.mono ?_; rintro e w' ⟨rfl, rfl⟩))
            go_ret2
            exact ⟨_, by rw [← HKr.out]; rfl, by rw [HL.out, ← HKr.out, if_neg (by decide)]; exact RowV.nil _, Hb1.out⟩
      · obtain rfl : j = K.xs.length := by omega
        have HKr := hid (show (0 : Int) = R by rw [← hkr, List.drop_length]; rfl)
        have HS1 := hid (HSo.out _ Hb1.out)
        clear hkr
        go_wp2_with fail
        refine HS1.out.mono ?_
        rintro e w2 ⟨v, rfl, hO, hb2⟩
        obtain ⟨t, rfl, htx, htA⟩ := RowV.of_ow hO HG.out
        have Htx := hid htx
        have HtA := hid htA
        have Hb2 := hid (Below.step Hb1.out hb2 Hb1.out.size)
        clear hO htx htA hb2
        go_wp2_with fail
        go_ret2
        exact ⟨_, by rw [← HKr.out]; rfl, by rw [HL.out, ← HKr.out, if_pos rfl]; exact ⟨t, rfl, Htx.out, HtA.out⟩, Hb2.out⟩
end Go.Proofs.YthjbebngedajiaaDoor
