/-
  CONTRACTS of package cache: Check, Get. CONDITIONS: none.
  WHAT cache.Added DOES, in plain. CONDITIONS: none.
-/
import Derived.Test.YtlcbdhblaamekaaDoorCache
namespace Go.Proofs.YtlcbdhblaamekaaDoor
open Go.RowKit
open Go.ChangeShapes Go.WideShapes Go.ChangeAt

def lowB (p : Option Int) (k : Int) : Bool := match p with | some q => decide (k ≤ q) | none => false
def chkCs : Option Int → List E → Int
  | _, [] => 0
  | p, e :: r => if chk e = 0 then (if lowB p e.key = true then 3 else chkCs (some e.key) r) else chk e
def chkC (l : List E) : Int := if 8 < l.length then 4 else chkCs none l

theorem chk_key {e : E} (h : chk e = 0) : 0 ≤ e.key ∧ e.key < 8 := by
  unfold chk at h
  split at h
  · cases h
  · rename_i h1
    simp only [Bool.or_eq_true, not_or, Bool.not_eq_true, Bool.not_eq_false'] at h1
    exact keyB_true.1 h1.1.1.1
theorem chkCs_ok : ∀ (l : List E) (p : Option Int), chkCs p l = 0 → (∀ e ∈ l, chk e = 0) ∧ (∀ q, p = some q → ∀ e ∈ l, q < e.key) ∧ SortedK l
  | [], p, _ => ⟨by simp, by simp, fun a b _ h => by simp at h⟩
  | e :: r, p, h => by
    rw [chkCs] at h
    split at h
    · rename_i he
      split at h
      · cases h
      · rename_i hl
        obtain ⟨h1, h2, h3⟩ := chkCs_ok r _ h
        have hk := h2 _ rfl
        refine ⟨by simpa [he] using h1, fun q hq x hx => ?_, fun a b hab hb => ?_⟩
        · subst hq
          simp [lowB] at hl
          rcases List.mem_cons.1 hx with rfl | hx
          · exact hl
          · have := hk x hx; omega
        · match a, b, hab with
          | 0, b + 1, _ =>
            have hb' : b < r.length := by simpa using hb
            have : r.getD b E.zero ∈ r := by rw [List.getD, List.getElem?_eq_getElem hb', Option.getD_some]; exact List.getElem_mem hb'
            simpa using hk _ this
          | a + 1, b + 1, hab => simpa using h3 a b (by omega) (by simpa using hb)
    · rename_i he
      exact absurd h he
theorem getD_mem {l : List E} {a : Nat} (h : a < l.length) : l.getD a E.zero ∈ l := by
  rw [List.getD, List.getElem?_eq_getElem h, Option.getD_some]
  exact List.getElem_mem h
theorem chkC_ok {l : List E} (h : chkC l = 0) : l.length ≤ 8 ∧ (∀ e ∈ l, chk e = 0) ∧ SortedK l ∧ KeysIn l := by
  unfold chkC at h
  split at h
  · cases h
  · obtain ⟨h1, _, h3⟩ := chkCs_ok l none h
    exact ⟨by omega, h1, h3, fun a ha => chk_key (h1 _ (getD_mem ha))⟩

set_option maxHeartbeats 2000000 in
theorem ccheck_any (s : SlV E) (w : World) (hs : EntriesAt w s) :
    Calls Tryd.prog 17 #[.slice s.A s.xs.length s.c] w fun e w' => e = .returned (errV (chkC s.xs)) ∧ Below w.heap.size w w' := by
  have hlen := hs.len
  unfold maxLen at hlen
  by_cases h8 : 8 < s.xs.length
  · have h8' : (8 : Int) < (s.xs.length : Int) := by omega
    rw [chkC, if_pos h8]
    go_enter Tryd.func17, Tryd.ntmps17
    go_wp2_with fail
    go_ret
    exact ⟨rfl, by (repeat (first | with_reducible exact Below.refl _ _ | with_reducible assumption | (with_reducible refine Below.drew ?_) | (with_reducible refine Below.manyDrew ?_ _) | ((with_reducible refine Below.alloc ?_ ?_ _); rotate_left; (focus (first | omega | (dsimp only; omega) | (simp; done) | (simp; omega)))) | ((with_reducible refine Below.setCell ?_ ?_ _); rotate_left; (focus (first | omega | (dsimp only; omega) | (simp; done) | (simp; omega)))) | ((with_reducible refine Below.step ?_ (by assumption) ?_); rotate_left; (focus (first | omega | (dsimp only; omega) | (simp; done) | (simp; omega))))))⟩
  · have h8' : ¬ (8 : Int) < (s.xs.length : Int) := by omega
    generalize hr : chkC s.xs = r
    rw [chkC, if_neg h8] at hr
    have Hr := hid hr
    clear hr
    go_enter Tryd.func17, Tryd.ntmps17
    go_wp2_with fail
    go_loopw [12] (fun i wr => ∃ k : Nat, k ≤ s.xs.length ∧ i = .int .i64 k ∧ chkCs (if k = 0 then none else some (s.xs.getD (k - 1) E.zero).key) (s.xs.drop k) = r ∧ Below w.heap.size w wr) (fun i _ => s.xs.length - (intOf i).toNat)
    case atStart => exact ⟨0, Nat.zero_le _, rfl, Hr.out, Below.refl _ _⟩
    case round =>
      obtain ⟨k, hk, rfl, hkr, hbr⟩ := hrel
      have hz0 := hbr.size
      by_cases hlt : k < s.xs.length
      · obtain ⟨g, off, hA, hg, hcells⟩ := hs.get (by omega)
        obtain ⟨k0, k1, k2, k3, k4⟩ := (hcells k hlt).stays hbr hg
        have hd : s.xs.drop k = s.xs.getD k E.zero :: s.xs.drop (k + 1) := by
          rw [List.drop_eq_getElem_cons hlt, List.getD, List.getElem?_eq_getElem hlt, Option.getD_some]
        rw [hd, chkCs] at hkr
        have hm := hs.each _ (getD_mem hlt)
        rcases k with _ | j
        · rw [if_pos rfl] at hkr
          rw [Nat.zero_mul, Nat.add_zero] at k0 k1 k2 k3 k4
          rw [Nat.zero_add] at hd hkr
          obtain ⟨x, hx⟩ : ∃ x, s.xs.getD 0 E.zero = x := ⟨_, rfl⟩
          rw [hx] at hkr k0 k1 k2 k3 k4 hm
          have Hx := hid hx
          clear hx
          obtain ⟨xk, xv, xa, xg, xt⟩ := x
          simp only at k0 k1 k2 k3 k4
          have Hkr := hid hkr
          rw [hA]
          clear hA hkr hcells hd
          go_wp2_with fail
          refine (check_any xk xv xa xg xt _ hm.2.2.2).mono ?_; rintro e w1 ⟨rfl, hb1⟩; obtain ⟨hc1, hf1⟩ := bcell hb1; have hz1 := hb1.size; (try simp only [World.size_alloc] at hz1); (try simp only [World.size_setCell] at hz1)
          have hl1 : wr.heap.size < w1.heap.size := by omega
          by_cases hc : chk ⟨xk, xv, xa, xg, xt⟩ = 0
          · rw [hc, show errV 0 = .nilIface from rfl]
            have e0 : w1.cell? ⟨wr.heap.size, 0, none⟩ = some (.int .i64 xk) := by rw [hc1 _ _ (by simp)]; simp [go_sem]
            have Hkr2 := hid ((if_pos hc).symm.trans Hkr.out)
            clear Hkr
            go_wp2_with fail
            go_quiet (fail)
            go_wp2_with fail
            go_roundw
            case rel => exact ⟨1, by omega, by go_num, by show chkCs (some (s.xs.getD 0 E.zero).key) _ = _; rw [Hx.out]; exact Hkr2.out, by (repeat (first | with_reducible exact Below.refl _ _ | with_reducible assumption | (with_reducible refine Below.drew ?_) | (with_reducible refine Below.manyDrew ?_ _) | ((with_reducible refine Below.alloc ?_ ?_ _); rotate_left; (focus (first | omega | (dsimp only; omega) | (simp; done) | (simp; omega)))) | ((with_reducible refine Below.setCell ?_ ?_ _); rotate_left; (focus (first | omega | (dsimp only; omega) | (simp; done) | (simp; omega)))) | ((with_reducible refine Below.step ?_ (by assumption) ?_); rotate_left; (focus (first | omega | (dsimp only; omega) | (simp; done) | (simp; omega))))))⟩
            case measure => simp [intOf]; omega
          · have hcr : chk ⟨xk, xv, xa, xg, xt⟩ = r := by rw [← Hkr.out, if_neg hc]
            subst hcr
            clear Hkr
            rw [errV_ne hc]
            have Hc : Hid (chk ⟨xk, xv, xa, xg, xt⟩ ≠ 0) := hc
            clear hc
            go_wp2_with fail
            go_ret
            exact ⟨by rw [errV_ne Hc.out]; rfl, by (repeat (first | with_reducible exact Below.refl _ _ | with_reducible assumption | (with_reducible refine Below.drew ?_) | (with_reducible refine Below.manyDrew ?_ _) | ((with_reducible refine Below.alloc ?_ ?_ _); rotate_left; (focus (first | omega | (dsimp only; omega) | (simp; done) | (simp; omega)))) | ((with_reducible refine Below.setCell ?_ ?_ _); rotate_left; (focus (first | omega | (dsimp only; omega) | (simp; done) | (simp; omega)))) | ((with_reducible refine Below.step ?_ (by assumption) ?_); rotate_left; (focus (first | omega | (dsimp only; omega) | (simp; done) | (simp; omega))))))⟩
        · have hq := ((hcells j (by omega)).stays hbr hg).c0
          rw [if_neg (Nat.succ_ne_zero j), Nat.add_sub_cancel] at hkr
          generalize s.xs.getD j E.zero = y at *
          obtain ⟨x, hx⟩ : ∃ x, s.xs.getD (j + 1) E.zero = x := ⟨_, rfl⟩
          rw [hx] at hkr k0 k1 k2 k3 k4 hm
          have Hx := hid hx
          clear hx
          obtain ⟨xk, xv, xa, xg, xt⟩ := x
          simp only at k0 k1 k2 k3 k4
          have Hkr := hid hkr
          rw [hA]
          clear hA hkr hcells hd
          go_wp2_with fail
          refine (check_any xk xv xa xg xt _ hm.2.2.2).mono ?_; rintro e w1 ⟨rfl, hb1⟩; obtain ⟨hc1, hf1⟩ := bcell hb1; have hz1 := hb1.size; (try simp only [World.size_alloc] at hz1); (try simp only [World.size_setCell] at hz1)
          have hl1 : wr.heap.size < w1.heap.size := by omega
          by_cases hc : chk ⟨xk, xv, xa, xg, xt⟩ = 0
          · rw [hc, show errV 0 = .nilIface from rfl]
            have e0 : w1.cell? ⟨wr.heap.size, 0, none⟩ = some (.int .i64 xk) := by rw [hc1 _ _ (by simp)]; simp [go_sem]
            replace hq := (hb1.cell (p := ⟨g, _, none⟩) (by simp; omega)).trans ((((Below.refl wr.heap.size wr).alloc (Nat.le_refl _) _).cell (p := ⟨g, _, none⟩) (by dsimp only; omega)).trans hq)
            have Hkr2 := hid ((if_pos hc).symm.trans Hkr.out)
            clear Hkr
            by_cases hle : xk ≤ y.key
            · have hr3 : (3 : Int) = r := by rw [← Hkr2.out, lowB]; simp [hle]
              subst hr3
              clear Hkr2
              go_wp2_with fail
              go_quiet (fail)
              go_wp2_with fail
              go_ret
              exact ⟨rfl, by (repeat (first | with_reducible exact Below.refl _ _ | with_reducible assumption | (with_reducible refine Below.drew ?_) | (with_reducible refine Below.manyDrew ?_ _) | ((with_reducible refine Below.alloc ?_ ?_ _); rotate_left; (focus (first | omega | (dsimp only; omega) | (simp; done) | (simp; omega)))) | ((with_reducible refine Below.setCell ?_ ?_ _); rotate_left; (focus (first | omega | (dsimp only; omega) | (simp; done) | (simp; omega)))) | ((with_reducible refine Below.step ?_ (by assumption) ?_); rotate_left; (focus (first | omega | (dsimp only; omega) | (simp; done) | (simp; omega))))))⟩
            · have Hkr3 := hid ((if_neg (show ¬ lowB (some y.key) xk = true by simp [lowB]; omega)).symm.trans Hkr2.out)
              clear Hkr2
              go_wp2_with fail
              go_quiet (fail)
              go_wp2_with fail
              go_roundw
              case rel => exact ⟨j + 1 + 1, by omega, by go_num, by show chkCs (some (s.xs.getD (j + 1) E.zero).key) _ = _; rw [Hx.out]; exact Hkr3.out, by (repeat (first | with_reducible exact Below.refl _ _ | with_reducible assumption | (with_reducible refine Below.drew ?_) | (with_reducible refine Below.manyDrew ?_ _) | ((with_reducible refine Below.alloc ?_ ?_ _); rotate_left; (focus (first | omega | (dsimp only; omega) | (simp; done) | (simp; omega)))) | ((with_reducible refine Below.setCell ?_ ?_ _); rotate_left; (focus (first | omega | (dsimp only; omega) | (simp; done) | (simp; omega)))) | ((with_reducible refine Below.step ?_ (by assumption) ?_); rotate_left; (focus (first | omega | (dsimp only; omega) | (simp; done) | (simp; omega))))))⟩
              case measure => simp [intOf]; omega
          · have hcr : chk ⟨xk, xv, xa, xg, xt⟩ = r := by rw [← Hkr.out, if_neg hc]
            subst hcr
            clear Hkr
            rw [errV_ne hc]
            have Hc : Hid (chk ⟨xk, xv, xa, xg, xt⟩ ≠ 0) := hc
            clear hc
            go_wp2_with fail
            go_ret
            exact ⟨by rw [errV_ne Hc.out]; rfl, by (repeat (first | with_reducible exact Below.refl _ _ | with_reducible assumption | (with_reducible refine Below.drew ?_) | (with_reducible refine Below.manyDrew ?_ _) | ((with_reducible refine Below.alloc ?_ ?_ _); rotate_left; (focus (first | omega | (dsimp only; omega) | (simp; done) | (simp; omega)))) | ((with_reducible refine Below.setCell ?_ ?_ _); rotate_left; (focus (first | omega | (dsimp only; omega) | (simp; done) | (simp; omega)))) | ((with_reducible refine Below.step ?_ (by assumption) ?_); rotate_left; (focus (first | omega | (dsimp only; omega) | (simp; done) | (simp; omega))))))⟩
      · obtain rfl : k = s.xs.length := by omega
        have hr0 : (0 : Int) = r := by
          rw [List.drop_length] at hkr
          exact hkr
        subst hr0
        clear hkr
        go_wp2_with fail
        go_ret
        exact ⟨rfl, by (repeat (first | with_reducible exact Below.refl _ _ | with_reducible assumption | (with_reducible refine Below.drew ?_) | (with_reducible refine Below.manyDrew ?_ _) | ((with_reducible refine Below.alloc ?_ ?_ _); rotate_left; (focus (first | omega | (dsimp only; omega) | (simp; done) | (simp; omega)))) | ((with_reducible refine Below.setCell ?_ ?_ _); rotate_left; (focus (first | omega | (dsimp only; omega) | (simp; done) | (simp; omega)))) | ((with_reducible refine Below.step ?_ (by assumption) ?_); rotate_left; (focus (first | omega | (dsimp only; omega) | (simp; done) | (simp; omega))))))⟩
end Go.Proofs.YtlcbdhblaamekaaDoor
namespace Go.Proofs.YtlcbdhblaamekaaDoor
open Go.RowKit
open Go.ChangeShapes Go.WideShapes Go.ChangeAt

/-- an entry added to a cache: what is there, and the fault -/
def addC (l : List E) (e : E) : List E × Int :=
  if hasK e.key l = true then (if (joined (l.getD (plc e.key l) E.zero) e).2 = 0 then (l.set (plc e.key l) (joined (l.getD (plc e.key l) E.zero) e).1, 0) else ([], (joined (l.getD (plc e.key l) E.zero) e).2))
  else (l.take (plc e.key l) ++ e :: l.drop (plc e.key l), 0)
theorem plc_le (k : Int) : ∀ l : List E, plc k l ≤ l.length
  | [] => Nat.le_refl _
  | e :: r => by
    have := plc_le k r
    rw [plc]
    split <;> simp <;> omega
end Go.Proofs.YtlcbdhblaamekaaDoor
