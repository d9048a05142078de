/-
  CONTRACTS of package tomb at any caches: what Safe asks of all caches, Safe. CONDITIONS: none.
-/
import Derived.Test.YthjbebngedajiaaDoorSafe3
import Derived.Test.YthjbebngedajiaaDoorRead
import Derived.Test.YthjbebngedajiaaDoorStale
namespace Go.Proofs.YthjbebngedajiaaDoor
open Go.RowKit
open Go.ChangeShapes Go.WideShapes Go.ChangeAt

/-- the first cache from the j-th on in which an entry is not the same, and gone -/
def idxA (e : E) : Nat → List (SlV E) → Int
  | _, [] => -1
  | j, c :: r => if alikeB e c.xs = true then idxA e (j + 1) r else j
def allAlike (e : E) (l : List (SlV E)) : Bool := l.all fun c => alikeB e c.xs
theorem idxA_true {e : E} : ∀ {l : List (SlV E)} (j : Nat), allAlike e l = true → idxA e j l = -1
  | [], _, _ => rfl
  | c :: r, j, h => by
    unfold allAlike at h
    rw [List.all_cons, Bool.and_eq_true] at h
    rw [idxA, if_pos h.1, idxA_true (j + 1) h.2]
theorem idxA_false {e : E} : ∀ {l : List (SlV E)} (j : Nat), allAlike e l = false → 0 ≤ idxA e j l
  | [], _, h => by simp [allAlike] at h
  | c :: r, j, h => by
    unfold allAlike at h
    rw [List.all_cons] at h
    rw [idxA]
    by_cases hc : alikeB e c.xs = true
    · rw [if_pos hc]
      rw [hc, Bool.true_and] at h
      exact idxA_false (j + 1) h
    · rw [if_neg hc]
      omega

set_option maxHeartbeats 1000000 in
theorem sindex_any (s : SlV (SlV E)) (ib b : Nat) (e : E) (w : World) (hC : CachesAt w s) (hc : ∀ c ∈ s.xs, chkC c.xs = 0) (h6 : s.xs.length ≤ 6) (hk : 0 ≤ e.key ∧ e.key < 8) (he : EAt w b 0 e) (hb : b < w.heap.size) (hi : w.cell? ⟨ib, 0, none⟩ = some (.func (.func 77) #[] #[.pointer (some ⟨b, 0, none⟩)])) (hib : ib < w.heap.size) :
    Calls Tryd.prog 78 #[.slice s.A s.xs.length s.c, .func (.func 58) #[] #[.pointer (some ⟨ib, 0, none⟩)]] w fun r w' => r = .returned (.int .i64 (idxA e 0 s.xs)) ∧ Below w.heap.size w w' := by
  have H1 := hid (fun (c : SlV E) W (hm : c ∈ s.xs) (hW : Below w.heap.size w W) (hE : EntriesAt W c) => safe1_any c ib b e W hE (hc c hm) hk (he.stays hW hb) (Nat.lt_of_lt_of_le hb hW.size) ((hW.cell (p := ⟨ib, 0, none⟩) hib).trans hi))
  generalize hr : idxA e 0 s.xs = r
  have Hr := hid hr
  clear hr he hi hc
  go_enter Tryd.func78, Tryd.ntmps78
  go_wp2_with fail
  go_loopw [8] (fun i wr => ∃ j : Nat, j ≤ s.xs.length ∧ i = .int .i64 j ∧ idxA e j (s.xs.drop j) = r ∧ Below w.heap.size w wr) (fun i _ => s.xs.length - (intOf i).toNat)
  case atStart => exact ⟨0, Nat.zero_le _, rfl, Hr.out, Below.refl _ _⟩
  case round =>
    obtain ⟨j, hj, rfl, hjr, hbr⟩ := hrel
    have hz0 := hbr.size
    by_cases hlt : j < s.xs.length
    · obtain ⟨b0, off, hA, hb0, hcells⟩ := hC.row (by omega)
      have hcell := hcells j hlt
      have hin := (hC.each j hlt).stays hbr
      rw [← hbr.cell (p := ⟨b0, off + j, none⟩) hb0] at hcell
      rw [show s.xs.drop j = s.xs[j] :: s.xs.drop (j + 1) from List.drop_eq_getElem_cons hlt, idxA] at hjr
      have hmem : s.xs[j] ∈ s.xs := List.getElem_mem hlt
      generalize s.xs[j] = c at *
      have HC1 := hid (H1.out c wr hmem hbr hin)
      rw [hA]
      rcases hal : alikeB e c.xs with _ | _
      · rw [hal, if_neg (by decide)] at hjr
        rw [hal] at HC1
        have Hjr := hid hjr
        clear hjr hal hA hcells
        go_wp2_with fail
        refine HC1.out.mono ?_
        rintro e w1 ⟨rfl, hb1⟩; obtain ⟨hc1, hf1⟩ := bcell hb1; have hz1 := hb1.size; (try simp only [World.size_alloc] at hz1); (try simp only [World.size_setCell] at hz1)
        go_wp2_with fail
        go_ret
        exact ⟨by rw [← Hjr.out]; rfl, by (repeat (first | with_reducible exact Below.refl _ _ | with_reducible assumption | (with_reducible refine Below.drew ?_) | (with_reducible refine Below.manyDrew ?_ _) | ((with_reducible refine Below.alloc ?_ ?_ _); rotate_left; (focus (first | omega | (dsimp only; omega) | (simp; done) | (simp; omega)))) | ((with_reducible refine Below.setCell ?_ ?_ _); rotate_left; (focus (first | omega | (dsimp only; omega) | (simp; done) | (simp; omega)))) | ((with_reducible refine Below.step ?_ (by assumption) ?_); rotate_left; (focus (first | omega | (dsimp only; omega) | (simp; done) | (simp; omega))))))⟩
      · rw [hal, if_pos rfl] at hjr
        rw [hal] at HC1
        have Hjr := hid hjr
        clear hjr hal hA hcells
        go_wp2_with fail
        refine HC1.out.mono ?_
        rintro e w1 ⟨rfl, hb1⟩; obtain ⟨hc1, hf1⟩ := bcell hb1; have hz1 := hb1.size; (try simp only [World.size_alloc] at hz1); (try simp only [World.size_setCell] at hz1)
        go_wp2_with fail
        go_roundw
        case rel => exact ⟨j + 1, by omega, by go_num, Hjr.out, by (repeat (first | with_reducible exact Below.refl _ _ | with_reducible assumption | (with_reducible refine Below.drew ?_) | (with_reducible refine Below.manyDrew ?_ _) | ((with_reducible refine Below.alloc ?_ ?_ _); rotate_left; (focus (first | omega | (dsimp only; omega) | (simp; done) | (simp; omega)))) | ((with_reducible refine Below.setCell ?_ ?_ _); rotate_left; (focus (first | omega | (dsimp only; omega) | (simp; done) | (simp; omega)))) | ((with_reducible refine Below.step ?_ (by assumption) ?_); rotate_left; (focus (first | omega | (dsimp only; omega) | (simp; done) | (simp; omega))))))⟩
        case measure => simp [intOf]; omega
    · obtain rfl : j = s.xs.length := by omega
      rw [List.drop_length, idxA] at hjr
      have Hjr := hid hjr
      clear hjr
      go_wp2_with fail
      go_ret
      exact ⟨by rw [← Hjr.out]; rfl, hbr⟩

set_option maxHeartbeats 1000000 in
theorem scontains_any (s : SlV (SlV E)) (ib b : Nat) (e : E) (w : World) (hC : CachesAt w s) (hc : ∀ c ∈ s.xs, chkC c.xs = 0) (h6 : s.xs.length ≤ 6) (hk : 0 ≤ e.key ∧ e.key < 8) (he : EAt w b 0 e) (hb : b < w.heap.size) (hi : w.cell? ⟨ib, 0, none⟩ = some (.func (.func 77) #[] #[.pointer (some ⟨b, 0, none⟩)])) (hib : ib < w.heap.size) :
    Calls Tryd.prog 57 #[.slice s.A s.xs.length s.c, .func (.func 58) #[] #[.pointer (some ⟨ib, 0, none⟩)]] w fun r w' => r = .returned (.bool (!allAlike e s.xs)) ∧ Below w.heap.size w w' := by
  have H1 := hid (sindex_any s ib b e w hC hc h6 hk he hb hi hib)
  clear hC hi he hc
  rcases hr : allAlike e s.xs with _ | _
  · have h0 := idxA_false 0 hr
    generalize idxA e 0 s.xs = r at *
    clear hr
    go_enter Tryd.func57, Tryd.ntmps57
    go_wp2_with fail
    refine H1.out.mono ?_
    rintro e w1 ⟨rfl, hb1⟩; obtain ⟨hc1, hf1⟩ := bcell hb1; have hz1 := hb1.size; (try simp only [World.size_alloc] at hz1); (try simp only [World.size_setCell] at hz1)
    go_wp2_with fail
    go_ret
    exact ⟨rfl, hb1⟩
  · rw [idxA_true 0 hr] at H1
    clear hr
    go_enter Tryd.func57, Tryd.ntmps57
    go_wp2_with fail
    refine H1.out.mono ?_
    rintro e w1 ⟨rfl, hb1⟩; obtain ⟨hc1, hf1⟩ := bcell hb1; have hz1 := hb1.size; (try simp only [World.size_alloc] at hz1); (try simp only [World.size_setCell] at hz1)
    go_wp2_with fail
    go_ret
    exact ⟨rfl, hb1⟩

/-- keys that are safe -/
def safeL (l : List (SlV E)) (c : List E) : List Int := (c.filter fun e => e.gone && allAlike e l).map (·.key)
theorem safeL_snoc (l : List (SlV E)) (c : List E) (e : E) : safeL l (c ++ [e]) = if (e.gone && allAlike e l) = true then safeL l c ++ [e.key] else safeL l c := by
  unfold safeL
  rw [List.filter_append]
  by_cases h : (e.gone && allAlike e l) = true <;> simp [h]
theorem safeL_len (l : List (SlV E)) (c : List E) : (safeL l c).length ≤ c.length := by
  unfold safeL
  rw [List.length_map]
  exact List.length_filter_le _ _
def headC (l : List (SlV E)) : List E := match l with | [] => [] | c :: _ => c.xs
def safeR (l : List (SlV E)) : List Int × Int := if chkT l = 0 then (safeL l (headC l), 0) else ([], chkT l)

set_option maxHeartbeats 2000000 in
theorem safe_any (s : SlV (SlV E)) (w : World) (hC : CachesAt w s) :
    Calls Tryd.prog 23 #[.slice s.A s.xs.length s.c] w (IRes w (safeR s.xs)) := by
  have hct := caches_any _ w hC
  have Hct := hide hct
  by_cases hT : chkT s.xs = 0
  · rw [safeR, if_pos hT]
    obtain ⟨hl16, hch⟩ : (1 ≤ s.xs.length ∧ s.xs.length ≤ 6) ∧ ∀ c ∈ s.xs, chkC c.xs = 0 := by
      unfold chkT at hT
      split at hT
      · cases hT
      · split at hT
        · cases hT
        · exact ⟨by omega, chkTs_ok hT⟩
    rw [hT] at Hct
    obtain ⟨h1, h6⟩ := hl16
    obtain ⟨b0, off, hA, hb0, hcells⟩ := hC.row (by omega)
    have hcell := hcells 0 (by omega)
    have hin := hC.each 0 (by omega)
    have hc := hch _ (List.getElem_mem (show 0 < s.xs.length by omega))
    have hhd : headC s.xs = (s.xs[0]'(by omega)).xs := by
      obtain ⟨_, _, xs⟩ := s
      cases xs with
      | nil => simp at h1
      | cons a r => rfl
    rw [hhd]
    rw [Nat.add_zero] at hcell
    generalize s.xs[0]'(by omega) = c at *
    have Hch := hid hch
    have Hc := hid hc
    clear hct hT hc hcells hch hhd
    rw [hA]
    have HA := hid hA
    go_enter Tryd.func23, Tryd.ntmps23
    go_wp2_with fail
    rw [← HA.out]
    refine Hct.out.mono ?_
    rintro e w1 ⟨rfl, hb1⟩; obtain ⟨hc1, hf1⟩ := bcell hb1; have hz1 := hb1.size; (try simp only [World.size_alloc] at hz1); (try simp only [World.size_setCell] at hz1)
    rw [show errV 0 = .nilIface from rfl, HA.out]
    have hcell1 := (hb1.cell (p := ⟨b0, off, none⟩) hb0).trans hcell
    go_wp2_with fail
    go_loopw [5, 18] (fun vg i wr => ∃ j : Nat, j ≤ c.xs.length ∧ i = .int .i64 j ∧ Ow cellI 1 w.heap.size 3 wr vg (safeL s.xs (c.xs.take j)) ∧ Below w.heap.size w wr) (fun _ i _ => c.xs.length - (intOf i).toNat)
    case atStart => exact ⟨0, by omega, rfl, Ow.nil _ _ _ _ _, by (repeat (first | with_reducible exact Below.refl _ _ | with_reducible assumption | (with_reducible refine Below.drew ?_) | (with_reducible refine Below.manyDrew ?_ _) | ((with_reducible refine Below.alloc ?_ ?_ _); rotate_left; (focus (first | omega | (dsimp only; omega) | (simp; done) | (simp; omega)))) | ((with_reducible refine Below.setCell ?_ ?_ _); rotate_left; (focus (first | omega | (dsimp only; omega) | (simp; done) | (simp; omega)))) | ((with_reducible refine Below.step ?_ (by assumption) ?_); rotate_left; (focus (first | omega | (dsimp only; omega) | (simp; done) | (simp; omega))))))⟩
    case round =>
      obtain ⟨j, hj, rfl, hvg, hbr⟩ := hrel
      have hz0 := hbr.size
      by_cases hlt : j < c.xs.length
      · obtain ⟨g, off2, hA2, hg, hcells2⟩ := hin.get (by omega)
        obtain ⟨k0, k1, k2, k3, k4⟩ := (hcells2 j hlt).stays hbr hg
        have htk := take_snoc hlt
        have hcl := hin.len
        unfold maxLen at hcl
        have hkx := (chkC_ok Hc.out).2.2.2 j hlt
        have hgl8 : (safeL s.xs (c.xs.take j)).length ≤ 8 := by
          have h1 := safeL_len s.xs (c.xs.take j)
          have h2 := List.length_take_le j c.xs
          have h3 := (chkC_ok Hc.out).1
          omega
        generalize c.xs.getD j E.zero = x at *
        have hg2 := safeL_snoc s.xs (c.xs.take j) x
        rw [← htk] at hg2
        generalize safeL s.xs (c.xs.take j) = L at *
        obtain ⟨xk, xv, xa, xg, xt⟩ := x
        simp only at k0 k1 k2 k3 k4
        have Hg2 := hid hg2
        rw [hA2]
        clear hA2 hcells2 htk hg2
        go_wp2_with fail
        refine (alike_any xk xv xa xg xt _).mono ?_
        rintro r w2 ⟨rfl, rfl⟩
        rcases xg with _ | _
        · rw [Bool.false_and, if_neg (by decide)] at Hg2
          go_wp2_with fail
          go_roundw
          case rel => exact ⟨j + 1, by omega, by go_num, by rw [Hg2.out]; exact (((hvg.alloc _).alloc _).alloc _), by (repeat (first | with_reducible exact Below.refl _ _ | with_reducible assumption | (with_reducible refine Below.drew ?_) | (with_reducible refine Below.manyDrew ?_ _) | ((with_reducible refine Below.alloc ?_ ?_ _); rotate_left; (focus (first | omega | (dsimp only; omega) | (simp; done) | (simp; omega)))) | ((with_reducible refine Below.setCell ?_ ?_ _); rotate_left; (focus (first | omega | (dsimp only; omega) | (simp; done) | (simp; omega)))) | ((with_reducible refine Below.step ?_ (by assumption) ?_); rotate_left; (focus (first | omega | (dsimp only; omega) | (simp; done) | (simp; omega))))))⟩
          case measure => simp [intOf]; omega
        · rw [Bool.true_and] at Hg2
          go_wp2_with fail
          have hbx : Below w.heap.size w (((wr.alloc (.cells #[.int .i64 xk, .int .i64 xv, .int .i64 xa, .bool true, .string xt] 26)).alloc (.cells #[.int .i64 xk, .int .i64 xv, .int .i64 xa, .bool true, .string xt] 26)).alloc (.cells #[.func (.func 77) #[] #[.pointer (some ⟨wr.heap.size + 1, 0, none⟩)]] 80)) := by (repeat (first | with_reducible exact Below.refl _ _ | with_reducible assumption | (with_reducible refine Below.drew ?_) | (with_reducible refine Below.manyDrew ?_ _) | ((with_reducible refine Below.alloc ?_ ?_ _); rotate_left; (focus (first | omega | (dsimp only; omega) | (simp; done) | (simp; omega)))) | ((with_reducible refine Below.setCell ?_ ?_ _); rotate_left; (focus (first | omega | (dsimp only; omega) | (simp; done) | (simp; omega)))) | ((with_reducible refine Below.step ?_ (by assumption) ?_); rotate_left; (focus (first | omega | (dsimp only; omega) | (simp; done) | (simp; omega))))))
          have hct2 := scontains_any s (wr.heap.size + 1 + 1) (wr.heap.size + 1) ⟨xk, xv, xa, true, xt⟩ _ (hC.stays hbx) Hch.out h6 hkx (by constructor <;> simp [go_sem]) (by simp) (by simp [go_sem]) (by simp)
          rw [HA.out] at hct2
          refine hct2.mono ?_
          clear hct2
          have hOwx := (((hvg.alloc (.cells #[.int .i64 xk, .int .i64 xv, .int .i64 xa, .bool true, .string xt] 26)).alloc (.cells #[.int .i64 xk, .int .i64 xv, .int .i64 xa, .bool true, .string xt] 26)).alloc (.cells #[.func (.func 77) #[] #[.pointer (some ⟨wr.heap.size + 1, 0, none⟩)]] 80))
          rcases hal : allAlike ⟨xk, xv, xa, true, xt⟩ s.xs with _ | _
          · rw [hal, if_neg (by decide)] at Hg2
            rintro e w3 ⟨rfl, hb3⟩; obtain ⟨hc3, hf3⟩ := bcell hb3; have hz3 := hb3.size; (try simp only [World.size_alloc] at hz3); (try simp only [World.size_setCell] at hz3)
            have HOw3 := hid (hOwx.belowS hb3)
            have Hbx3 := hid (Below.step hbx hb3 hbx.size)
            clear hOwx hbx hvg hal hb3
            go_wp2_with fail
            go_roundw
            case rel => exact ⟨j + 1, by omega, by go_num, by rw [Hg2.out]; exact HOw3.out, Hbx3.out⟩
            case measure => simp [intOf]; omega
          · rw [hal, if_pos rfl] at Hg2
            rintro e w3 ⟨rfl, hb3⟩; obtain ⟨hc3, hf3⟩ := bcell hb3; have hz3 := hb3.size; (try simp only [World.size_alloc] at hz3); (try simp only [World.size_setCell] at hz3)
            have HOw3 := hid (hOwx.belowS hb3)
            have hbx3 := Below.step hbx hb3 hbx.size
            have Hbx3 := hid hbx3
            have hzb3 := hbx3.size
            clear hOwx hbx3 hbx hvg hal
            go_wp2_with (at_builtin; refine appI _ w.heap.size _ L xk HOw3.out rfl _ _ rfl rfl rfl ?_ ?_ ?_ ?_)
            all_goals try (first | omega | (simp; done) | (simp; omega))
            intro v8 w8 h8 f8 o8
            have hb8 : Below w.heap.size w w8 := Hbx3.out.trans (f8.below0 hzb3 (fun i hi => HOw3.out.ge i hi))
            have H8 := hid h8
            have Hb8 := hid hb8
            clear h8 f8 o8 hb8
            go_wp2_with fail
            go_roundw
            case rel => exact ⟨j + 1, by omega, by go_num, by rw [Hg2.out]; exact H8.out, Hb8.out⟩
            case measure => simp [intOf]; omega
      · obtain rfl : j = c.xs.length := by omega
        rw [List.take_length] at hvg
        go_wp2_with fail
        go_ret2
        exact ⟨_, rfl, hvg, hbr⟩
  · rw [safeR, if_neg hT]
    have He := hid (errV_ne hT)
    generalize chkT s.xs = en at *
    clear hct hT hC
    go_enter Tryd.func23, Tryd.ntmps23
    go_wp2_with fail
    refine Hct.out.mono ?_
    rintro e w1 ⟨rfl, hb1⟩; obtain ⟨hc1, hf1⟩ := bcell hb1; have hz1 := hb1.size; (try simp only [World.size_alloc] at hz1); (try simp only [World.size_setCell] at hz1)
    rw [He.out]
    go_wp2_with fail
    refine bodyPost_ret (v := .tuple #[.slice none 0 0, .iface 87 (.int .i64 en)]) ?_ rfl ⟨_, by rw [He.out], Ow.nil _ _ _ _ _, by (repeat (first | with_reducible exact Below.refl _ _ | with_reducible assumption | (with_reducible refine Below.drew ?_) | (with_reducible refine Below.manyDrew ?_ _) | ((with_reducible refine Below.alloc ?_ ?_ _); rotate_left; (focus (first | omega | (dsimp only; omega) | (simp; done) | (simp; omega)))) | ((with_reducible refine Below.setCell ?_ ?_ _); rotate_left; (focus (first | omega | (dsimp only; omega) | (simp; done) | (simp; omega)))) | ((with_reducible refine Below.step ?_ (by assumption) ?_); rotate_left; (focus (first | omega | (dsimp only; omega) | (simp; done) | (simp; omega))))))⟩
    simp [results, Tryd.results23, go_sem]
end Go.Proofs.YthjbebngedajiaaDoor
