/-
  CONTRACTS of package tomb: Caches, Key. CONDITIONS: none.
-/
import Derived.Test.YtdocdmpfokdjkaaCGet
namespace Go.Proofs.Ytdocdmpfokdjkaa
open Go.RowKit
open Go.ChangeShapes Go.WideShapes Go.ChangeAt

/-- caches as they came in -/
structure CachesAt (w : World) (s : SlV (SlV E)) : Prop where
  row : 0 < s.xs.length → ∃ b off, s.A = some ⟨b, off, none⟩ ∧ b < w.heap.size ∧ ∀ i (hi : i < s.xs.length), w.cell? ⟨b, off + i, none⟩ = some (.slice s.xs[i].A s.xs[i].xs.length s.xs[i].c)
  each : ∀ i (hi : i < s.xs.length), EntriesAt w s.xs[i]
  len : s.xs.length ≤ maxLen
theorem CachesAt.stays {w w' : World} {s : SlV (SlV E)} (h : CachesAt w s) (hb : Below w.heap.size w w') : CachesAt w' s := ⟨fun h0 => by
    obtain ⟨b', off', h1, h2, h3⟩ := h.row h0
    exact ⟨b', off', h1, Nat.lt_of_lt_of_le h2 hb.size, fun i hi => (hb.cell (p := ⟨b', _, none⟩) h2).trans (h3 i hi)⟩, fun i hi => (h.each i hi).stays hb, h.len⟩

def chkTs : List (SlV E) → Int
  | [] => 0
  | c :: r => if chkC c.xs = 0 then chkTs r else chkC c.xs
def chkT (l : List (SlV E)) : Int := if l.length = 0 then 5 else if 6 < l.length then 4 else chkTs l
def chkTK (l : List (SlV E)) (k : Int) : Int := if chkT l = 0 then (if keyB k = true then 0 else 1) else chkT l

set_option maxHeartbeats 400000 in
theorem caches_any (s : SlV (SlV E)) (w : World) (hs : CachesAt w s) :
    Calls Try.prog 54 #[.slice s.A s.xs.length s.c] w fun e w' => e = .returned (errV (chkT s.xs)) ∧ Below w.heap.size w w' := by
  have hlen := hs.len
  unfold maxLen at hlen
  obtain ⟨r, hr⟩ : ∃ r, chkT s.xs = r := ⟨_, rfl⟩
  rw [hr]
  by_cases h0 : s.xs.length = 0
  · have hr0 : (5 : Int) = r := by rw [← hr, chkT, if_pos h0]
    subst hr0
    rw [h0]
    clear hr h0 hlen
    go_enter Try.func54, Try.ntmps54
    go_wp2_with fail
    go_ret
    exact ⟨rfl, by (repeat (first | with_reducible exact Below.refl _ _ | with_reducible assumption | (with_reducible refine Below.drew ?_) | (with_reducible refine Below.manyDrew ?_ _) | ((with_reducible refine Below.alloc ?_ ?_ _); rotate_left; (focus (first | omega | (dsimp only; omega) | (simp; done) | (simp; omega)))) | ((with_reducible refine Below.setCell ?_ ?_ _); rotate_left; (focus (first | omega | (dsimp only; omega) | (simp; done) | (simp; omega)))) | ((with_reducible refine Below.step ?_ (by assumption) ?_); rotate_left; (focus (first | omega | (dsimp only; omega) | (simp; done) | (simp; omega))))))⟩
  · have h0' : ((s.xs.length : Int) == 0) = false := by rw [beq_eq_false_iff_ne]; omega
    by_cases h6 : 6 < s.xs.length
    · have hr0 : (4 : Int) = r := by rw [← hr, chkT, if_neg h0, if_pos h6]
      subst hr0
      have h6' : (6 : Int) < (s.xs.length : Int) := by omega
      have H0 : Hid (¬ s.xs.length = 0) := h0
      clear hr h0 h6
      go_enter Try.func54, Try.ntmps54
      go_wp2_with fail
      go_ret
      exact ⟨rfl, by (repeat (first | with_reducible exact Below.refl _ _ | with_reducible assumption | (with_reducible refine Below.drew ?_) | (with_reducible refine Below.manyDrew ?_ _) | ((with_reducible refine Below.alloc ?_ ?_ _); rotate_left; (focus (first | omega | (dsimp only; omega) | (simp; done) | (simp; omega)))) | ((with_reducible refine Below.setCell ?_ ?_ _); rotate_left; (focus (first | omega | (dsimp only; omega) | (simp; done) | (simp; omega)))) | ((with_reducible refine Below.step ?_ (by assumption) ?_); rotate_left; (focus (first | omega | (dsimp only; omega) | (simp; done) | (simp; omega))))))⟩
    · have h6' : ¬ (6 : Int) < (s.xs.length : Int) := by omega
      rw [chkT, if_neg h0, if_neg h6] at hr
      have Hr := hid hr
      have H6 : Hid (¬ 6 < s.xs.length) := h6
      have H0 : Hid (¬ s.xs.length = 0) := h0
      clear hr h0 h6
      go_enter Try.func54, Try.ntmps54
      go_wp2_with fail
      go_loopw [18] (fun i wr => ∃ k : Nat, k ≤ s.xs.length ∧ i = .int .i64 k ∧ chkTs (s.xs.drop k) = r ∧ Below w.heap.size w wr) (fun i _ => s.xs.length - (intOf i).toNat)
      case atStart => exact ⟨0, Nat.zero_le _, rfl, Hr.out, Below.refl _ _⟩
      case round =>
        obtain ⟨k, hk, rfl, hkr, hbr⟩ := hrel
        have hz0 := hbr.size
        by_cases hlt : k < s.xs.length
        · obtain ⟨b, off, hA, hb, hcells⟩ := hs.row (by omega)
          have hcell := hcells k hlt
          have hin := (hs.each k hlt).stays hbr
          rw [← hbr.cell (p := ⟨b, off + k, none⟩) hb] at hcell
          have hd : s.xs.drop k = s.xs[k] :: s.xs.drop (k + 1) := List.drop_eq_getElem_cons hlt
          rw [hd, chkTs] at hkr
          generalize s.xs[k] = c at *
          have Hkr := hid hkr
          rw [hA]
          clear hA hcells hd hkr
          go_wp2_with fail
          refine (ccheck_any c _ hin).mono ?_; rintro e w1 ⟨rfl, hb1⟩; obtain ⟨hc1, hf1⟩ := bcell hb1; have hz1 := hb1.size; (try simp only [World.size_alloc] at hz1); (try simp only [World.size_setCell] at hz1)
          by_cases hc : chkC c.xs = 0
          · have Hkr2 := hid ((if_pos hc).symm.trans Hkr.out)
            rw [hc, show errV 0 = .nilIface from rfl]
            clear hc Hkr
            go_wp2_with fail
            go_roundw
            case rel => exact ⟨k + 1, by omega, by go_num, Hkr2.out, by (repeat (first | with_reducible exact Below.refl _ _ | with_reducible assumption | (with_reducible refine Below.drew ?_) | (with_reducible refine Below.manyDrew ?_ _) | ((with_reducible refine Below.alloc ?_ ?_ _); rotate_left; (focus (first | omega | (dsimp only; omega) | (simp; done) | (simp; omega)))) | ((with_reducible refine Below.setCell ?_ ?_ _); rotate_left; (focus (first | omega | (dsimp only; omega) | (simp; done) | (simp; omega)))) | ((with_reducible refine Below.step ?_ (by assumption) ?_); rotate_left; (focus (first | omega | (dsimp only; omega) | (simp; done) | (simp; omega))))))⟩
            case measure => simp [intOf]; omega
          · have hcr : chkC c.xs = r := by rw [← Hkr.out, if_neg hc]
            subst hcr
            clear Hkr Hr
            have He := hid (errV_ne hc)
            clear hc
            rw [He.out]
            go_wp2_with fail
            go_ret
            exact ⟨by rw [He.out]; rfl, by (repeat (first | with_reducible exact Below.refl _ _ | with_reducible assumption | (with_reducible refine Below.drew ?_) | (with_reducible refine Below.manyDrew ?_ _) | ((with_reducible refine Below.alloc ?_ ?_ _); rotate_left; (focus (first | omega | (dsimp only; omega) | (simp; done) | (simp; omega)))) | ((with_reducible refine Below.setCell ?_ ?_ _); rotate_left; (focus (first | omega | (dsimp only; omega) | (simp; done) | (simp; omega)))) | ((with_reducible refine Below.step ?_ (by assumption) ?_); rotate_left; (focus (first | omega | (dsimp only; omega) | (simp; done) | (simp; omega))))))⟩
        · obtain rfl : k = s.xs.length := by omega
          have hr0 : (0 : Int) = r := by
            rw [List.drop_length] at hkr
            exact hkr
          subst hr0
          clear hkr
          go_wp2_with fail
          go_ret
          exact ⟨rfl, by (repeat (first | with_reducible exact Below.refl _ _ | with_reducible assumption | (with_reducible refine Below.drew ?_) | (with_reducible refine Below.manyDrew ?_ _) | ((with_reducible refine Below.alloc ?_ ?_ _); rotate_left; (focus (first | omega | (dsimp only; omega) | (simp; done) | (simp; omega)))) | ((with_reducible refine Below.setCell ?_ ?_ _); rotate_left; (focus (first | omega | (dsimp only; omega) | (simp; done) | (simp; omega)))) | ((with_reducible refine Below.step ?_ (by assumption) ?_); rotate_left; (focus (first | omega | (dsimp only; omega) | (simp; done) | (simp; omega))))))⟩

set_option maxHeartbeats 400000 in
theorem tkey_any (s : SlV (SlV E)) (k : Int) (w : World) (hs : CachesAt w s) :
    Calls Try.prog 44 #[.slice s.A s.xs.length s.c, .int .i64 k] w fun e w' => e = .returned (errV (chkTK s.xs k)) ∧ Below w.heap.size w w' := by
  obtain ⟨r, hr⟩ : ∃ r, chkTK s.xs k = r := ⟨_, rfl⟩
  rw [hr]
  unfold chkTK at hr
  by_cases hc : chkT s.xs = 0
  · rw [if_pos hc] at hr
    have Hc := hid hc
    clear hc
    rcases hk : keyB k with _ | _
    · rw [if_neg (by simp [hk])] at hr
      subst hr
      have Hk := hid hk
      clear hk
      go_enter Try.func44, Try.ntmps44
      go_wp2_with fail
      refine (caches_any s _ hs).mono ?_; rintro e w1 ⟨rfl, hb1⟩; obtain ⟨hc1, hf1⟩ := bcell hb1; have hz1 := hb1.size; (try simp only [World.size_alloc] at hz1); (try simp only [World.size_setCell] at hz1)
      rw [Hc.out, show errV 0 = .nilIface from rfl]
      go_wp2_with ((go_at_call 32; refine (key_any _ _).mono ?_; rintro e w' ⟨rfl, rfl⟩); rw [Hk.out])
      go_ret
      exact ⟨rfl, by (repeat (first | with_reducible exact Below.refl _ _ | with_reducible assumption | (with_reducible refine Below.drew ?_) | (with_reducible refine Below.manyDrew ?_ _) | ((with_reducible refine Below.alloc ?_ ?_ _); rotate_left; (focus (first | omega | (dsimp only; omega) | (simp; done) | (simp; omega)))) | ((with_reducible refine Below.setCell ?_ ?_ _); rotate_left; (focus (first | omega | (dsimp only; omega) | (simp; done) | (simp; omega)))) | ((with_reducible refine Below.step ?_ (by assumption) ?_); rotate_left; (focus (first | omega | (dsimp only; omega) | (simp; done) | (simp; omega))))))⟩
    · rw [if_pos hk] at hr
      subst hr
      have Hk := hid hk
      clear hk
      go_enter Try.func44, Try.ntmps44
      go_wp2_with fail
      refine (caches_any s _ hs).mono ?_; rintro e w1 ⟨rfl, hb1⟩; obtain ⟨hc1, hf1⟩ := bcell hb1; have hz1 := hb1.size; (try simp only [World.size_alloc] at hz1); (try simp only [World.size_setCell] at hz1)
      rw [Hc.out, show errV 0 = .nilIface from rfl]
      go_wp2_with ((go_at_call 32; refine (key_any _ _).mono ?_; rintro e w' ⟨rfl, rfl⟩); rw [Hk.out])
      go_ret
      exact ⟨rfl, by (repeat (first | with_reducible exact Below.refl _ _ | with_reducible assumption | (with_reducible refine Below.drew ?_) | (with_reducible refine Below.manyDrew ?_ _) | ((with_reducible refine Below.alloc ?_ ?_ _); rotate_left; (focus (first | omega | (dsimp only; omega) | (simp; done) | (simp; omega)))) | ((with_reducible refine Below.setCell ?_ ?_ _); rotate_left; (focus (first | omega | (dsimp only; omega) | (simp; done) | (simp; omega)))) | ((with_reducible refine Below.step ?_ (by assumption) ?_); rotate_left; (focus (first | omega | (dsimp only; omega) | (simp; done) | (simp; omega))))))⟩
  · rw [if_neg hc] at hr
    subst hr
    have He := hid (errV_ne hc)
    clear hc
    go_enter Try.func44, Try.ntmps44
    go_wp2_with fail
    refine (caches_any s _ hs).mono ?_; rintro e w1 ⟨rfl, hb1⟩; obtain ⟨hc1, hf1⟩ := bcell hb1; have hz1 := hb1.size; (try simp only [World.size_alloc] at hz1); (try simp only [World.size_setCell] at hz1)
    rw [He.out]
    go_wp2_with fail
    go_ret
    exact ⟨by rw [He.out]; rfl, by (repeat (first | with_reducible exact Below.refl _ _ | with_reducible assumption | (with_reducible refine Below.drew ?_) | (with_reducible refine Below.manyDrew ?_ _) | ((with_reducible refine Below.alloc ?_ ?_ _); rotate_left; (focus (first | omega | (dsimp only; omega) | (simp; done) | (simp; omega)))) | ((with_reducible refine Below.setCell ?_ ?_ _); rotate_left; (focus (first | omega | (dsimp only; omega) | (simp; done) | (simp; omega)))) | ((with_reducible refine Below.step ?_ (by assumption) ?_); rotate_left; (focus (first | omega | (dsimp only; omega) | (simp; done) | (simp; omega))))))⟩
theorem meet_any (n r m : Int) (w : World) (h : 1 ≤ n ∧ n ≤ 6 ∧ 0 ≤ r ∧ r ≤ n ∧ 0 ≤ m ∧ m ≤ n) :
    Calls Try.prog 25 #[.int .i64 n, .int .i64 r, .int .i64 m] w fun e w' => e = .returned (.tuple #[.bool (decide (n < r + m)), .nilIface]) ∧ Below w.heap.size w w' := by
  obtain ⟨h1, h2, h3, h4, h5, h6⟩ := h
  go_enter Try.func25, Try.ntmps25
  go_wp2_with fail
  refine bodyPost_ret (v := .tuple #[.bool (decide (n < r + m)), .nilIface]) ?_ rfl ⟨rfl, by (repeat (first | with_reducible exact Below.refl _ _ | with_reducible assumption | (with_reducible refine Below.drew ?_) | (with_reducible refine Below.manyDrew ?_ _) | ((with_reducible refine Below.alloc ?_ ?_ _); rotate_left; (focus (first | omega | (dsimp only; omega) | (simp; done) | (simp; omega)))) | ((with_reducible refine Below.setCell ?_ ?_ _); rotate_left; (focus (first | omega | (dsimp only; omega) | (simp; done) | (simp; omega)))) | ((with_reducible refine Below.step ?_ (by assumption) ?_); rotate_left; (focus (first | omega | (dsimp only; omega) | (simp; done) | (simp; omega))))))⟩
  simp [results, Try.results25, go_sem]
end Go.Proofs.Ytdocdmpfokdjkaa
