/-
  CONTRACTS of package tomb: Caches, Key. CONDITIONS: none.
  CONTRACT of repair.Read. CONDITIONS: none.
-/
import Derived.Test.YtmgiecoeeidgoaaGreatDoorCCheck
namespace Go.Proofs.YtmgiecoeeidgoaaGreatDoor
open Go.RowKit
open Go.ChangeShapes Go.WideShapes Go.ChangeAt

/-- caches as they came in -/
structure CachesAt (w : World) (s : SlV (SlV E)) : Prop where
  row : 0 < s.xs.length → ∃ b off, s.A = some ⟨b, off, none⟩ ∧ b < w.heap.size ∧ ∀ i (hi : i < s.xs.length), w.cell? ⟨b, off + i, none⟩ = some (.slice s.xs[i].A s.xs[i].xs.length s.xs[i].c)
  each : ∀ i (hi : i < s.xs.length), EntriesAt w s.xs[i]
  len : s.xs.length ≤ maxLen
theorem CachesAt.stays {w w' : World} {s : SlV (SlV E)} (h : CachesAt w s) (hb : Below w.heap.size w w') : CachesAt w' s := ⟨fun h0 => by
    obtain ⟨b', off', h1, h2, h3⟩ := h.row h0
    exact ⟨b', off', h1, Nat.lt_of_lt_of_le h2 hb.size, fun i hi => (hb.cell (p := ⟨b', _, none⟩) h2).trans (h3 i hi)⟩, fun i hi => (h.each i hi).stays hb, h.len⟩

def chkTs : List (SlV E) → Int
  | [] => 0
  | c :: r => if chkC c.xs = 0 then chkTs r else chkC c.xs
def chkT (l : List (SlV E)) : Int := if l.length = 0 then 5 else if 6 < l.length then 4 else chkTs l
def chkTK (l : List (SlV E)) (k : Int) : Int := if chkT l = 0 then (if keyB k = true then 0 else 1) else chkT l

set_option maxHeartbeats 400000 in
theorem caches_any (s : SlV (SlV E)) (w : World) (hs : CachesAt w s) :
    Calls Tryz.prog 72 #[.slice s.A s.xs.length s.c] w fun e w' => e = .returned (errV (chkT s.xs)) ∧ Below w.heap.size w w' := by
  have hlen := hs.len
  unfold maxLen at hlen
  obtain ⟨r, hr⟩ : ∃ r, chkT s.xs = r := ⟨_, rfl⟩
  rw [hr]
  by_cases h0 : s.xs.length = 0
  · have hr0 : (5 : Int) = r := by rw [← hr, chkT, if_pos h0]
    subst hr0
    rw [h0]
    clear hr h0 hlen
    go_enter Tryz.func72, Tryz.ntmps72
    go_wp2_with fail
    go_ret
    exact ⟨rfl, by (repeat (first | with_reducible exact Below.refl _ _ | with_reducible assumption | (with_reducible refine Below.drew ?_) | (with_reducible refine Below.manyDrew ?_ _) | ((with_reducible refine Below.alloc ?_ ?_ _); rotate_left; (focus (first | omega | (dsimp only; omega) | (simp; done) | (simp; omega)))) | ((with_reducible refine Below.setCell ?_ ?_ _); rotate_left; (focus (first | omega | (dsimp only; omega) | (simp; done) | (simp; omega)))) | ((with_reducible refine Below.step ?_ (by assumption) ?_); rotate_left; (focus (first | omega | (dsimp only; omega) | (simp; done) | (simp; omega))))))⟩
  · have h0' : ((s.xs.length : Int) == 0) = false := by rw [beq_eq_false_iff_ne]; omega
    by_cases h6 : 6 < s.xs.length
    · have hr0 : (4 : Int) = r := by rw [← hr, chkT, if_neg h0, if_pos h6]
      subst hr0
      have h6' : (6 : Int) < (s.xs.length : Int) := by omega
      have H0 : Hid (¬ s.xs.length = 0) := h0
      clear hr h0 h6
      go_enter Tryz.func72, Tryz.ntmps72
      go_wp2_with fail
      go_ret
      exact ⟨rfl, by (repeat (first | with_reducible exact Below.refl _ _ | with_reducible assumption | (with_reducible refine Below.drew ?_) | (with_reducible refine Below.manyDrew ?_ _) | ((with_reducible refine Below.alloc ?_ ?_ _); rotate_left; (focus (first | omega | (dsimp only; omega) | (simp; done) | (simp; omega)))) | ((with_reducible refine Below.setCell ?_ ?_ _); rotate_left; (focus (first | omega | (dsimp only; omega) | (simp; done) | (simp; omega)))) | ((with_reducible refine Below.step ?_ (by assumption) ?_); rotate_left; (focus (first | omega | (dsimp only; omega) | (simp; done) | (simp; omega))))))⟩
    · have h6' : ¬ (6 : Int) < (s.xs.length : Int) := by omega
      rw [chkT, if_neg h0, if_neg h6] at hr
      have Hr := hid hr
      have H6 : Hid (¬ 6 < s.xs.length) := h6
      have H0 : Hid (¬ s.xs.length = 0) := h0
      clear hr h0 h6
      go_enter Tryz.func72, Tryz.ntmps72
      go_wp2_with fail
      go_loopw [18] (fun i wr => ∃ k : Nat, k ≤ s.xs.length ∧ i = .int .i64 k ∧ chkTs (s.xs.drop k) = r ∧ Below w.heap.size w wr) (fun i _ => s.xs.length - (intOf i).toNat)
      case atStart => exact ⟨0, Nat.zero_le _, rfl, Hr.out, Below.refl _ _⟩
      case round =>
        obtain ⟨k, hk, rfl, hkr, hbr⟩ := hrel
        have hz0 := hbr.size
        by_cases hlt : k < s.xs.length
        · obtain ⟨b, off, hA, hb, hcells⟩ := hs.row (by omega)
          have hcell := hcells k hlt
          have hin := (hs.each k hlt).stays hbr
          rw [← hbr.cell (p := ⟨b, off + k, none⟩) hb] at hcell
          have hd : s.xs.drop k = s.xs[k] :: s.xs.drop (k + 1) := List.drop_eq_getElem_cons hlt
          rw [hd, chkTs] at hkr
          generalize s.xs[k] = c at *
          have Hkr := hid hkr
          rw [hA]
          clear hA hcells hd hkr
          go_wp2_with fail
          refine (ccheck_any c _ hin).mono ?_; rintro e w1 ⟨rfl, hb1⟩; obtain ⟨hc1, hf1⟩ := bcell hb1; have hz1 := hb1.size; (try simp only [World.size_alloc] at hz1); (try simp only [World.size_setCell] at hz1)
          by_cases hc : chkC c.xs = 0
          · have Hkr2 := hid ((if_pos hc).symm.trans Hkr.out)
            rw [hc, show errV 0 = .nilIface from rfl]
            clear hc Hkr
            go_wp2_with fail
            go_roundw
            case rel => exact ⟨k + 1, by omega, by go_num, Hkr2.out, by (repeat (first | with_reducible exact Below.refl _ _ | with_reducible assumption | (with_reducible refine Below.drew ?_) | (with_reducible refine Below.manyDrew ?_ _) | ((with_reducible refine Below.alloc ?_ ?_ _); rotate_left; (focus (first | omega | (dsimp only; omega) | (simp; done) | (simp; omega)))) | ((with_reducible refine Below.setCell ?_ ?_ _); rotate_left; (focus (first | omega | (dsimp only; omega) | (simp; done) | (simp; omega)))) | ((with_reducible refine Below.step ?_ (by assumption) ?_); rotate_left; (focus (first | omega | (dsimp only; omega) | (simp; done) | (simp; omega))))))⟩
            case measure => simp [intOf]; omega
          · have hcr : chkC c.xs = r := by rw [← Hkr.out, if_neg hc]
            subst hcr
            clear Hkr Hr
            have He := hid (errV_ne hc)
            clear hc
            rw [He.out]
            go_wp2_with fail
            go_ret
            exact ⟨by rw [He.out]; rfl, by (repeat (first | with_reducible exact Below.refl _ _ | with_reducible assumption | (with_reducible refine Below.drew ?_) | (with_reducible refine Below.manyDrew ?_ _) | ((with_reducible refine Below.alloc ?_ ?_ _); rotate_left; (focus (first | omega | (dsimp only; omega) | (simp; done) | (simp; omega)))) | ((with_reducible refine Below.setCell ?_ ?_ _); rotate_left; (focus (first | omega | (dsimp only; omega) | (simp; done) | (simp; omega)))) | ((with_reducible refine Below.step ?_ (by assumption) ?_); rotate_left; (focus (first | omega | (dsimp only; omega) | (simp; done) | (simp; omega))))))⟩
        · obtain rfl : k = s.xs.length := by omega
          have hr0 : (0 : Int) = r := by
            rw [List.drop_length] at hkr
            exact hkr
          subst hr0
          clear hkr
          go_wp2_with fail
          go_ret
          exact ⟨rfl, by (repeat (first | with_reducible exact Below.refl _ _ | with_reducible assumption | (with_reducible refine Below.drew ?_) | (with_reducible refine Below.manyDrew ?_ _) | ((with_reducible refine Below.alloc ?_ ?_ _); rotate_left; (focus (first | omega | (dsimp only; omega) | (simp; done) | (simp; omega)))) | ((with_reducible refine Below.setCell ?_ ?_ _); rotate_left; (focus (first | omega | (dsimp only; omega) | (simp; done) | (simp; omega)))) | ((with_reducible refine Below.step ?_ (by assumption) ?_); rotate_left; (focus (first | omega | (dsimp only; omega) | (simp; done) | (simp; omega))))))⟩

set_option maxHeartbeats 400000 in
theorem tkey_any (s : SlV (SlV E)) (k : Int) (w : World) (hs : CachesAt w s) :
    Calls Tryz.prog 43 #[.slice s.A s.xs.length s.c, .int .i64 k] w fun e w' => e = .returned (errV (chkTK s.xs k)) ∧ Below w.heap.size w w' := by
  obtain ⟨r, hr⟩ : ∃ r, chkTK s.xs k = r := ⟨_, rfl⟩
  rw [hr]
  unfold chkTK at hr
  by_cases hc : chkT s.xs = 0
  · rw [if_pos hc] at hr
    have Hc := hid hc
    clear hc
    rcases hk : keyB k with _ | _
    · rw [if_neg (by simp [hk])] at hr
      subst hr
      have Hk := hid hk
      clear hk
      go_enter Tryz.func43, Tryz.ntmps43
      go_wp2_with fail
      refine (caches_any s _ hs).mono ?_; rintro e w1 ⟨rfl, hb1⟩; obtain ⟨hc1, hf1⟩ := bcell hb1; have hz1 := hb1.size; (try simp only [World.size_alloc] at hz1); (try simp only [World.size_setCell] at hz1)
      rw [Hc.out, show errV 0 = .nilIface from rfl]
      go_wp2_with ((go_at_call 38; refine (key_any _ _).mono ?_; rintro e w' ⟨rfl, rfl⟩); rw [Hk.out])
      go_ret
      exact ⟨rfl, by (repeat (first | with_reducible exact Below.refl _ _ | with_reducible assumption | (with_reducible refine Below.drew ?_) | (with_reducible refine Below.manyDrew ?_ _) | ((with_reducible refine Below.alloc ?_ ?_ _); rotate_left; (focus (first | omega | (dsimp only; omega) | (simp; done) | (simp; omega)))) | ((with_reducible refine Below.setCell ?_ ?_ _); rotate_left; (focus (first | omega | (dsimp only; omega) | (simp; done) | (simp; omega)))) | ((with_reducible refine Below.step ?_ (by assumption) ?_); rotate_left; (focus (first | omega | (dsimp only; omega) | (simp; done) | (simp; omega))))))⟩
    · rw [if_pos hk] at hr
      subst hr
      have Hk := hid hk
      clear hk
      go_enter Tryz.func43, Tryz.ntmps43
      go_wp2_with fail
      refine (caches_any s _ hs).mono ?_; rintro e w1 ⟨rfl, hb1⟩; obtain ⟨hc1, hf1⟩ := bcell hb1; have hz1 := hb1.size; (try simp only [World.size_alloc] at hz1); (try simp only [World.size_setCell] at hz1)
      rw [Hc.out, show errV 0 = .nilIface from rfl]
      go_wp2_with ((go_at_call 38; refine (key_any _ _).mono ?_; rintro e w' ⟨rfl, rfl⟩); rw [Hk.out])
      go_ret
      exact ⟨rfl, by (repeat (first | with_reducible exact Below.refl _ _ | with_reducible assumption | (with_reducible refine Below.drew ?_) | (with_reducible refine Below.manyDrew ?_ _) | ((with_reducible refine Below.alloc ?_ ?_ _); rotate_left; (focus (first | omega | (dsimp only; omega) | (simp; done) | (simp; omega)))) | ((with_reducible refine Below.setCell ?_ ?_ _); rotate_left; (focus (first | omega | (dsimp only; omega) | (simp; done) | (simp; omega)))) | ((with_reducible refine Below.step ?_ (by assumption) ?_); rotate_left; (focus (first | omega | (dsimp only; omega) | (simp; done) | (simp; omega))))))⟩
  · rw [if_neg hc] at hr
    subst hr
    have He := hid (errV_ne hc)
    clear hc
    go_enter Tryz.func43, Tryz.ntmps43
    go_wp2_with fail
    refine (caches_any s _ hs).mono ?_; rintro e w1 ⟨rfl, hb1⟩; obtain ⟨hc1, hf1⟩ := bcell hb1; have hz1 := hb1.size; (try simp only [World.size_alloc] at hz1); (try simp only [World.size_setCell] at hz1)
    rw [He.out]
    go_wp2_with fail
    go_ret
    exact ⟨by rw [He.out]; rfl, by (repeat (first | with_reducible exact Below.refl _ _ | with_reducible assumption | (with_reducible refine Below.drew ?_) | (with_reducible refine Below.manyDrew ?_ _) | ((with_reducible refine Below.alloc ?_ ?_ _); rotate_left; (focus (first | omega | (dsimp only; omega) | (simp; done) | (simp; omega)))) | ((with_reducible refine Below.setCell ?_ ?_ _); rotate_left; (focus (first | omega | (dsimp only; omega) | (simp; done) | (simp; omega)))) | ((with_reducible refine Below.step ?_ (by assumption) ?_); rotate_left; (focus (first | omega | (dsimp only; omega) | (simp; done) | (simp; omega))))))⟩
theorem meet_any (n r m : Int) (w : World) (h : 1 ≤ n ∧ n ≤ 6 ∧ 0 ≤ r ∧ r ≤ n ∧ 0 ≤ m ∧ m ≤ n) :
    Calls Tryz.prog 16 #[.int .i64 n, .int .i64 r, .int .i64 m] w fun e w' => e = .returned (.tuple #[.bool (decide (n < r + m)), .nilIface]) ∧ Below w.heap.size w w' := by
  obtain ⟨h1, h2, h3, h4, h5, h6⟩ := h
  go_enter Tryz.func16, Tryz.ntmps16
  go_wp2_with fail
  refine bodyPost_ret (v := .tuple #[.bool (decide (n < r + m)), .nilIface]) ?_ rfl ⟨rfl, by (repeat (first | with_reducible exact Below.refl _ _ | with_reducible assumption | (with_reducible refine Below.drew ?_) | (with_reducible refine Below.manyDrew ?_ _) | ((with_reducible refine Below.alloc ?_ ?_ _); rotate_left; (focus (first | omega | (dsimp only; omega) | (simp; done) | (simp; omega)))) | ((with_reducible refine Below.setCell ?_ ?_ _); rotate_left; (focus (first | omega | (dsimp only; omega) | (simp; done) | (simp; omega)))) | ((with_reducible refine Below.step ?_ (by assumption) ?_); rotate_left; (focus (first | omega | (dsimp only; omega) | (simp; done) | (simp; omega))))))⟩
  simp [results, Tryz.results16, go_sem]
end Go.Proofs.YtmgiecoeeidgoaaGreatDoor
namespace Go.Proofs.YtmgiecoeeidgoaaGreatDoor
open Go.RowKit
open Go.ChangeShapes Go.WideShapes Go.ChangeAt

/-- what is read: what was found so far, and the caches left -/
def readG (k : Int) : Bool → E → List (SlV E) → E × Int
  | f, o, [] => if f = true then (o, 0) else (E.zero, 5)
  | f, o, c :: r =>
    if hasK k c.xs = true then
      (if f = true then (if (joined o (c.xs.getD (plc k c.xs) E.zero)).2 = 0 then readG k true (joined o (c.xs.getD (plc k c.xs) E.zero)).1 r else (E.zero, (joined o (c.xs.getD (plc k c.xs) E.zero)).2))
       else readG k true (c.xs.getD (plc k c.xs) E.zero) r)
    else readG k f o r
def readR (l : List (SlV E)) (k : Int) : E × Int := if chkTK l k = 0 then readG k false E.zero l else (E.zero, chkTK l k)
theorem chkTs_ok : ∀ {l : List (SlV E)}, chkTs l = 0 → ∀ c ∈ l, chkC c.xs = 0
  | [], _ => by simp
  | c :: r, h => by
    rw [chkTs] at h
    split at h
    · rename_i h1
      intro x hx
      rcases List.mem_cons.1 hx with rfl | hx
      · exact h1
      · exact chkTs_ok h x hx
    · rename_i h1
      exact absurd h h1
theorem chkTK_ok {l : List (SlV E)} {k : Int} (h : chkTK l k = 0) : (1 ≤ l.length ∧ l.length ≤ 6) ∧ (∀ c ∈ l, chkC c.xs = 0) ∧ keyB k = true := by
  unfold chkTK at h
  split at h
  · rename_i h1
    split at h
    · rename_i h2
      unfold chkT at h1
      split at h1
      · cases h1
      · split at h1
        · cases h1
        · exact ⟨by omega, chkTs_ok h1, h2⟩
    · cases h
  · rename_i h1
    exact absurd h h1

set_option maxHeartbeats 400000 in
theorem read_one (s : SlV (SlV E)) (k : Int) (w : World) (hs : CachesAt w s) (hL : s.xs.length = 1) :
    Calls Tryz.prog 14 #[.slice s.A s.xs.length s.c, .int .i64 k] w fun e w' => e = .returned (.tuple #[(readR s.xs k).1.val, errV (readR s.xs k).2]) ∧ Below w.heap.size w w' := by
  obtain ⟨r, hr⟩ : ∃ r, readR s.xs k = r := ⟨_, rfl⟩
  rw [hr]
  unfold readR at hr
  have HL := hid hL
  clear hL
  by_cases hc : chkTK s.xs k = 0
  · rw [if_pos hc] at hr
    obtain ⟨⟨h1, h6⟩, hch, hk⟩ := chkTK_ok hc
    have Hc := hid hc
    have Hk := hid hk
    have Hch := hid hch
    have Hr := hid hr
    clear hc hk hch hr
    go_enter Tryz.func14, Tryz.ntmps14
    go_wp2_with fail
    refine (tkey_any s k _ (hs.stays (by (repeat (first | with_reducible exact Below.refl _ _ | with_reducible assumption | (with_reducible refine Below.drew ?_) | (with_reducible refine Below.manyDrew ?_ _) | ((with_reducible refine Below.alloc ?_ ?_ _); rotate_left; (focus (first | omega | (dsimp only; omega) | (simp; done) | (simp; omega)))) | ((with_reducible refine Below.setCell ?_ ?_ _); rotate_left; (focus (first | omega | (dsimp only; omega) | (simp; done) | (simp; omega)))) | ((with_reducible refine Below.step ?_ (by assumption) ?_); rotate_left; (focus (first | omega | (dsimp only; omega) | (simp; done) | (simp; omega))))))))).mono ?_; rintro e w1 ⟨rfl, hb1⟩; obtain ⟨hc1, hf1⟩ := bcell hb1; have hz1 := hb1.size; (try simp only [World.size_alloc] at hz1); (try simp only [World.size_setCell] at hz1)
    rw [Hc.out, show errV 0 = .nilIface from rfl]
    have hl1 : w.heap.size < w1.heap.size := by omega
    go_wp2_with fail
    have hb1x : Below w.heap.size w w1 := by (repeat (first | with_reducible exact Below.refl _ _ | with_reducible assumption | (with_reducible refine Below.drew ?_) | (with_reducible refine Below.manyDrew ?_ _) | ((with_reducible refine Below.alloc ?_ ?_ _); rotate_left; (focus (first | omega | (dsimp only; omega) | (simp; done) | (simp; omega)))) | ((with_reducible refine Below.setCell ?_ ?_ _); rotate_left; (focus (first | omega | (dsimp only; omega) | (simp; done) | (simp; omega)))) | ((with_reducible refine Below.step ?_ (by assumption) ?_); rotate_left; (focus (first | omega | (dsimp only; omega) | (simp; done) | (simp; omega))))))
    go_loopw [8, 24] (fun f i wr => ∃ (j : Nat) (fb : Bool) (o : E), j ≤ s.xs.length ∧ f = .bool fb ∧ i = .int .i64 j ∧ (fb = true → 1 ≤ j) ∧ readG k fb o (s.xs.drop j) = r ∧ Blk wr w1.heap.size 38 #[.int .i64 o.key, .int .i64 o.ver, .int .i64 o.asof, .bool o.gone, .string o.text] ∧ Below w1.heap.size w1 wr) (fun _ i _ => s.xs.length - (intOf i).toNat)
    case atStart => exact ⟨0, false, E.zero, Nat.zero_le _, rfl, rfl, by decide, Hr.out, Blk.new_at (by simp), by (repeat (first | with_reducible exact Below.refl _ _ | with_reducible assumption | (with_reducible refine Below.drew ?_) | (with_reducible refine Below.manyDrew ?_ _) | ((with_reducible refine Below.alloc ?_ ?_ _); rotate_left; (focus (first | omega | (dsimp only; omega) | (simp; done) | (simp; omega)))) | ((with_reducible refine Below.setCell ?_ ?_ _); rotate_left; (focus (first | omega | (dsimp only; omega) | (simp; done) | (simp; omega)))) | ((with_reducible refine Below.step ?_ (by assumption) ?_); rotate_left; (focus (first | omega | (dsimp only; omega) | (simp; done) | (simp; omega))))))⟩
    case round =>
      obtain ⟨j, fb, o, hj, rfl, rfl, hf1, hkr, hB, hbr⟩ := hrel
      have hz0 := hbr.size
      have hlo := hB.lt
      have hbw : Below w.heap.size w wr := Below.step hb1x hbr (by omega)
      by_cases hlt : j < s.xs.length
      · obtain rfl : fb = false := by
          rcases fb with _ | _
          · rfl
          · have := hf1 rfl
            have := HL.out
            omega
        obtain ⟨b, off, hA, hb, hcells⟩ := hs.row (by omega)
        have hcell := hcells j hlt
        have hin := (hs.each j hlt).stays hbw
        rw [← hbw.cell (p := ⟨b, off + j, none⟩) hb] at hcell
        have hd : s.xs.drop j = s.xs[j] :: s.xs.drop (j + 1) := List.drop_eq_getElem_cons hlt
        rw [hd, readG] at hkr
        obtain ⟨hn, _, hS, hK⟩ := chkC_ok (Hch.out _ (List.getElem_mem hlt))
        generalize s.xs[j] = c at *
        have HS := hid hS
        have HK := hid hK
        rcases hh : hasK k c.xs with _ | _
        · rw [if_neg (by simp [hh])] at hkr
          have Hkr := hid hkr
          have Hh := hid hh
          rw [hA]
          clear hA hcells hd hkr hS hK hh
          go_wp2_with fail
          refine (place_any k c _ hin HS.out HK.out (keyB_true.1 Hk.out) hn).mono ?_; rintro e w2 ⟨rfl, hb2⟩; obtain ⟨hc2, hf2⟩ := bcell hb2; have hz2 := hb2.size; (try simp only [World.size_alloc] at hz2); (try simp only [World.size_setCell] at hz2)
          rw [Hh.out]
          go_wp2_with fail
          go_roundw
          case rel => exact ⟨j + 1, false, o, by omega, rfl, by go_num, (fun h => by cases h), Hkr.out, hB.belowS hb2, by (repeat (first | with_reducible exact Below.refl _ _ | with_reducible assumption | (with_reducible refine Below.drew ?_) | (with_reducible refine Below.manyDrew ?_ _) | ((with_reducible refine Below.alloc ?_ ?_ _); rotate_left; (focus (first | omega | (dsimp only; omega) | (simp; done) | (simp; omega)))) | ((with_reducible refine Below.setCell ?_ ?_ _); rotate_left; (focus (first | omega | (dsimp only; omega) | (simp; done) | (simp; omega)))) | ((with_reducible refine Below.step ?_ (by assumption) ?_); rotate_left; (focus (first | omega | (dsimp only; omega) | (simp; done) | (simp; omega))))))⟩
          case measure => simp [intOf]; omega
        · rw [if_pos hh, if_neg (by decide)] at hkr
          have hp : plc k c.xs < c.xs.length := by
            unfold hasK at hh
            simp at hh
            exact hh.1
          obtain ⟨g, off2, hA2, hg, hcells2⟩ := hin.get (by omega)
          have hE := hcells2 _ hp
          have hcl := hin.len
          unfold maxLen at hcl
          generalize c.xs.getD (plc k c.xs) E.zero = x at *
          have Hkr := hid hkr
          have Hh := hid hh
          have HA2 := hid hA2
          rw [hA]
          clear hA hcells hd hkr hS hK hh hcells2 hA2
          go_wp2_with fail
          refine (place_any k c _ hin HS.out HK.out (keyB_true.1 Hk.out) hn).mono ?_; rintro e w2 ⟨rfl, hb2⟩; obtain ⟨hc2, hf2⟩ := bcell hb2; have hz2 := hb2.size; (try simp only [World.size_alloc] at hz2); (try simp only [World.size_setCell] at hz2)
          obtain ⟨k0, k1, k2, k3, k4⟩ := hE
          have hx0 : wr.cell? ⟨w1.heap.size, 0, none⟩ = some (.int .i64 o.key) := hB.cell 0
          have hx1 : wr.cell? ⟨w1.heap.size, 1, none⟩ = some (.int .i64 o.ver) := hB.cell 1
          have hx2 : wr.cell? ⟨w1.heap.size, 2, none⟩ = some (.int .i64 o.asof) := hB.cell 2
          have hx3 : wr.cell? ⟨w1.heap.size, 3, none⟩ = some (.bool o.gone) := hB.cell 3
          have hx4 : wr.cell? ⟨w1.heap.size, 4, none⟩ = some (.string o.text) := hB.cell 4
          have f0 := hB.frozen 0
          have f1 := hB.frozen 1
          have f2 := hB.frozen 2
          have f3 := hB.frozen 3
          have f4 := hB.frozen 4
          rw [Hh.out, HA2.out]
          rw [HA2.out] at hcell
          obtain ⟨xk, xv, xa, xg, xt⟩ := x
          simp only at k0 k1 k2 k3 k4
          generalize plc k c.xs = q at *
          have hB2 := hB.belowS hb2
          go_wp2_with fail
          go_roundw
          case rel => exact ⟨j + 1, true, ⟨xk, xv, xa, xg, xt⟩, by omega, rfl, by go_num, (fun _ => by omega), Hkr.out, Blk.put5 hB2 _ _ _ _ _, by (repeat (first | with_reducible exact Below.refl _ _ | with_reducible assumption | (with_reducible refine Below.drew ?_) | (with_reducible refine Below.manyDrew ?_ _) | ((with_reducible refine Below.alloc ?_ ?_ _); rotate_left; (focus (first | omega | (dsimp only; omega) | (simp; done) | (simp; omega)))) | ((with_reducible refine Below.setCell ?_ ?_ _); rotate_left; (focus (first | omega | (dsimp only; omega) | (simp; done) | (simp; omega)))) | ((with_reducible refine Below.step ?_ (by assumption) ?_); rotate_left; (focus (first | omega | (dsimp only; omega) | (simp; done) | (simp; omega))))))⟩
          case measure => simp [intOf]; omega
      · obtain rfl : j = s.xs.length := by omega
        rw [List.drop_length, readG] at hkr
        obtain ⟨hcr, hfr⟩ := bcell hbr
        have hBx := (Blk.new w 38 #[.int .i64 0, .int .i64 0, .int .i64 0, .bool false, .string ⟨#[]⟩]).belowS hb1
        have hBy := hBx.below hbr (by omega)
        rcases fb with _ | _
        · rw [if_neg (by decide)] at hkr
          subst hkr
          go_wp2_with fail
          refine bodyPost_ret (v := .tuple #[E.zero.val, errV 5]) ?_ rfl ⟨rfl, ?_⟩
          · exact results_box Tryz.results14 rfl (Blk.put5 hBy _ _ _ _ _) Tryz.underlying38 rfl (by kernel_rfl)
          · (repeat (first | with_reducible exact Below.refl _ _ | with_reducible assumption | (with_reducible refine Below.drew ?_) | (with_reducible refine Below.manyDrew ?_ _) | ((with_reducible refine Below.alloc ?_ ?_ _); rotate_left; (focus (first | omega | (dsimp only; omega) | (simp; done) | (simp; omega)))) | ((with_reducible refine Below.setCell ?_ ?_ _); rotate_left; (focus (first | omega | (dsimp only; omega) | (simp; done) | (simp; omega)))) | ((with_reducible refine Below.step ?_ (by assumption) ?_); rotate_left; (focus (first | omega | (dsimp only; omega) | (simp; done) | (simp; omega))))))
        · rw [if_pos rfl] at hkr
          subst hkr
          have hx0 : wr.cell? ⟨w1.heap.size, 0, none⟩ = some (.int .i64 o.key) := hB.cell 0
          have hx1 : wr.cell? ⟨w1.heap.size, 1, none⟩ = some (.int .i64 o.ver) := hB.cell 1
          have hx2 : wr.cell? ⟨w1.heap.size, 2, none⟩ = some (.int .i64 o.asof) := hB.cell 2
          have hx3 : wr.cell? ⟨w1.heap.size, 3, none⟩ = some (.bool o.gone) := hB.cell 3
          have hx4 : wr.cell? ⟨w1.heap.size, 4, none⟩ = some (.string o.text) := hB.cell 4
          obtain ⟨ok, ov, oa, og, ot⟩ := o
          simp only at hx0 hx1 hx2 hx3 hx4
          go_wp2_with fail
          refine bodyPost_ret (v := .tuple #[E.val ⟨ok, ov, oa, og, ot⟩, errV 0]) ?_ rfl ⟨rfl, ?_⟩
          · exact results_box Tryz.results14 rfl (Blk.put5 hBy _ _ _ _ _) Tryz.underlying38 rfl (by kernel_rfl)
          · (repeat (first | with_reducible exact Below.refl _ _ | with_reducible assumption | (with_reducible refine Below.drew ?_) | (with_reducible refine Below.manyDrew ?_ _) | ((with_reducible refine Below.alloc ?_ ?_ _); rotate_left; (focus (first | omega | (dsimp only; omega) | (simp; done) | (simp; omega)))) | ((with_reducible refine Below.setCell ?_ ?_ _); rotate_left; (focus (first | omega | (dsimp only; omega) | (simp; done) | (simp; omega)))) | ((with_reducible refine Below.step ?_ (by assumption) ?_); rotate_left; (focus (first | omega | (dsimp only; omega) | (simp; done) | (simp; omega))))))
  · rw [if_neg hc] at hr
    subst hr
    have He := hid (errV_ne hc)
    clear hc
    go_enter Tryz.func14, Tryz.ntmps14
    go_wp2_with fail
    refine (tkey_any s k _ (hs.stays (by (repeat (first | with_reducible exact Below.refl _ _ | with_reducible assumption | (with_reducible refine Below.drew ?_) | (with_reducible refine Below.manyDrew ?_ _) | ((with_reducible refine Below.alloc ?_ ?_ _); rotate_left; (focus (first | omega | (dsimp only; omega) | (simp; done) | (simp; omega)))) | ((with_reducible refine Below.setCell ?_ ?_ _); rotate_left; (focus (first | omega | (dsimp only; omega) | (simp; done) | (simp; omega)))) | ((with_reducible refine Below.step ?_ (by assumption) ?_); rotate_left; (focus (first | omega | (dsimp only; omega) | (simp; done) | (simp; omega))))))))).mono ?_; rintro e w1 ⟨rfl, hb1⟩; obtain ⟨hc1, hf1⟩ := bcell hb1; have hz1 := hb1.size; (try simp only [World.size_alloc] at hz1); (try simp only [World.size_setCell] at hz1)
    rw [He.out]
    have hl1 : w.heap.size < w1.heap.size := by omega
    go_wp2_with fail
    refine bodyPost_ret (v := .tuple #[E.zero.val, errV (chkTK s.xs k)]) ?_ rfl ⟨rfl, ?_⟩
    · rw [He.out]
      exact results_box Tryz.results14 rfl (Blk.put5 ((Blk.new_at (by simp)).belowS hb1) _ _ _ _ _) Tryz.underlying38 rfl (by kernel_rfl)
    · (repeat (first | with_reducible exact Below.refl _ _ | with_reducible assumption | (with_reducible refine Below.drew ?_) | (with_reducible refine Below.manyDrew ?_ _) | ((with_reducible refine Below.alloc ?_ ?_ _); rotate_left; (focus (first | omega | (dsimp only; omega) | (simp; done) | (simp; omega)))) | ((with_reducible refine Below.setCell ?_ ?_ _); rotate_left; (focus (first | omega | (dsimp only; omega) | (simp; done) | (simp; omega)))) | ((with_reducible refine Below.step ?_ (by assumption) ?_); rotate_left; (focus (first | omega | (dsimp only; omega) | (simp; done) | (simp; omega))))))
end Go.Proofs.YtmgiecoeeidgoaaGreatDoor
