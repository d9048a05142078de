/-
  CONTRACTS of gossip.Play (whatever comes) and gossip.Done. CONDITIONS: none.
-/
import Derived.Test.YtdocdmpfokdjkaaDoorGPlay
namespace Go.Proofs.YtdocdmpfokdjkaaDoor
open Go.RowKit
open Go.ChangeShapes Go.WideShapes Go.ChangeAt

theorem IntsAt.stays {w w' : World} {s : SlV Int} (h : IntsAt w s) (hb : Below w.heap.size w w') : IntsAt w' s := ⟨fun h0 => by
    obtain ⟨b', off', h1, h2, h3⟩ := h.row h0
    exact ⟨b', off', h1, Nat.lt_of_lt_of_le h2 hb.size, fun i hi => (hb.cell (p := ⟨b', _, none⟩) h2).trans (h3 i hi)⟩, h.len⟩
theorem IntssAt.stays {w w' : World} {s : SlV (SlV Int)} (h : IntssAt w s) (hb : Below w.heap.size w w') : IntssAt w' s := ⟨fun h0 => by
    obtain ⟨b', off', h1, h2, h3⟩ := h.row h0
    exact ⟨b', off', h1, Nat.lt_of_lt_of_le h2 hb.size, fun i hi => (hb.cell (p := ⟨b', _, none⟩) h2).trans (h3 i hi)⟩, fun i hi => (h.each i hi).stays hb, h.len⟩
theorem IntsAt.empty (w : World) : IntsAt w ⟨none, 0, []⟩ := ⟨(fun h => by cases h), Nat.zero_le _⟩
theorem IntssAt.empty (w : World) : IntssAt w ⟨none, 0, []⟩ := ⟨(fun h => by cases h), (fun i hi => by cases hi), Nat.zero_le _⟩

/-- what Play tells -/
def playR (n : Int) (cs : List (SlV Int)) : List Int := if chkG n cs = 0 then playL n.toNat cs else []
theorem playR_length (n : Int) (cs : List (SlV Int)) : (playR n cs).length ≤ 6 := by
  unfold playR
  split
  · rename_i h
    have := (chkG_ok h).1
    rw [playL_length]
    omega
  · exact Nat.zero_le _

set_option maxHeartbeats 2000000 in
theorem playR_any (n : Int) (s : SlV (SlV Int)) (w : World) (hs : IntssAt w s) :
    Calls Tryd.prog 8 #[.int .i64 n, .slice s.A s.xs.length s.c] w fun e w' => ∃ r : SlV Int, e = .returned (.tuple #[.slice r.A r.xs.length r.c, errV (chkG n s.xs)]) ∧ r.xs = playR n s.xs ∧ IntsAt w' r ∧ Below w.heap.size w w' := by
  by_cases h0 : chkG n s.xs = 0
  · rw [playR, if_pos h0, h0]
    exact play_any n s w hs h0
  · rw [playR, if_neg h0]
    have he := errV_ne h0
    have He := hid he
    clear he h0
    go_enter Tryd.func8, Tryd.ntmps8
    go_wp2_with fail
    refine (gcheck_any n s _ hs).mono ?_; rintro e w1 ⟨rfl, hb1⟩; obtain ⟨hc1, hf1⟩ := bcell hb1; have hz1 := hb1.size; (try simp only [World.size_alloc] at hz1); (try simp only [World.size_setCell] at hz1)
    rw [He.out]
    go_wp2_with fail
    refine bodyPost_ret (v := .tuple #[.slice none 0 0, _]) ?_ rfl ⟨⟨none, 0, []⟩, by rw [He.out]; rfl, rfl, IntsAt.empty _, hb1⟩
    simp [results, Tryd.results8, go_sem]

def fullI (n : Int) : Int := wrap64 (wrap64 ((2 : Int) ^ n.toNat) - 1)
theorem answers_done (bx : Nat) (n : Int) (h0 : 0 ≤ n) (h6 : n ≤ 6) : Answers bx n (fun k => decide (k ≠ fullI n)) 30 := by
  intro W x hc
  unfold fullI
  obtain ⟨n, rfl⟩ := Int.eq_ofNat_of_zero_le h0
  rw [Int.toNat_natCast]
  generalize hr : wrap64 (wrap64 ((2 : Int) ^ n) - 1) = r
  have Hr := hid hr
  by_cases h : x = wrap64 (wrap64 ((2 : Int) ^ n) - 1)
  · go_enter Tryd.func30, Tryd.ntmps30
    go_wp2
    go_ret
    exact ⟨ret_b (by rw [← Hr.out]; simp [h]), rfl⟩
  · go_enter Tryd.func30, Tryd.ntmps30
    go_wp2
    go_ret
    exact ⟨ret_b (by rw [← Hr.out]; simp [h]), rfl⟩

def doneB (n : Int) (cs : List (SlV Int)) : Bool := decide (chkG n cs = 0) && !((playR n cs).any fun k => decide (k ≠ fullI n))

set_option maxHeartbeats 2000000 in
theorem done_any (n : Int) (s : SlV (SlV Int)) (w : World) (hs : IntssAt w s) :
    Calls Tryd.prog 11 #[.int .i64 n, .slice s.A s.xs.length s.c] w fun e w' => e = .returned (.tuple #[.bool (doneB n s.xs), errV (chkG n s.xs)]) ∧ Below w.heap.size w w' := by
  by_cases h0 : chkG n s.xs = 0
  · rw [doneB, decide_eq_true h0, Bool.true_and]
    have hn := (chkG_ok h0).1
    generalize hd : (!((playR n s.xs).any fun k => decide (k ≠ fullI n))) = d
    have Hd := hid hd
    have H0 := hid h0
    clear h0 hd
    go_enter Tryd.func11, Tryd.ntmps11
    go_wp2_with fail
    refine (playR_any n s _ (hs.stays (by (repeat (first | with_reducible exact Below.refl _ _ | with_reducible assumption | (with_reducible refine Below.drew ?_) | (with_reducible refine Below.manyDrew ?_ _) | ((with_reducible refine Below.alloc ?_ ?_ _); rotate_left; (focus (first | omega | (dsimp only; omega) | (simp; done) | (simp; omega)))) | ((with_reducible refine Below.setCell ?_ ?_ _); rotate_left; (focus (first | omega | (dsimp only; omega) | (simp; done) | (simp; omega)))) | ((with_reducible refine Below.step ?_ (by assumption) ?_); rotate_left; (focus (first | omega | (dsimp only; omega) | (simp; done) | (simp; omega))))))))).mono ?_
    rintro e w1 ⟨⟨rA, rc, rx⟩, rfl, hr, hr1, hb1⟩
    simp only at hr
    have Hr := hid hr
    clear hr
    obtain ⟨hc1, hf1⟩ := bcell hb1
    have hz1 := hb1.size
    simp only [World.size_alloc] at hz1
    have hl1 : w.heap.size < w1.heap.size := by omega
    rw [H0.out, show errV 0 = .nilIface from rfl]
    go_wp2_with fail
    refine (containsFunc_done w.heap.size n _ (answers_done _ n (by omega) hn.2) ⟨rA, rc, rx⟩ _ hr1 (by rw [hc1 _ _ (by simp)]; simp [go_sem])).mono ?_
    rintro e w' ⟨rfl, rfl⟩
    have hd2 : (!(rx.any fun k => decide (k ≠ fullI n))) = d := by rw [Hr.out]; exact Hd.out
    have Hd2 := hid hd2
    clear hd2
    simp only []
    generalize (rx.any fun k => decide (k ≠ fullI n)) = q at *
    go_wp2_with fail
    refine bodyPost_ret (v := .tuple #[.bool d, .nilIface]) ?_ rfl ⟨by rw [H0.out]; rfl, by (repeat (first | with_reducible exact Below.refl _ _ | with_reducible assumption | (with_reducible refine Below.drew ?_) | (with_reducible refine Below.manyDrew ?_ _) | ((with_reducible refine Below.alloc ?_ ?_ _); rotate_left; (focus (first | omega | (dsimp only; omega) | (simp; done) | (simp; omega)))) | ((with_reducible refine Below.setCell ?_ ?_ _); rotate_left; (focus (first | omega | (dsimp only; omega) | (simp; done) | (simp; omega)))) | ((with_reducible refine Below.step ?_ (by assumption) ?_); rotate_left; (focus (first | omega | (dsimp only; omega) | (simp; done) | (simp; omega))))))⟩
    rw [← Hd2.out]
    simp [results, Tryd.results11, go_sem]
  · rw [doneB, decide_eq_false h0, Bool.false_and]
    have he := errV_ne h0
    have He := hid he
    clear he h0
    go_enter Tryd.func11, Tryd.ntmps11
    go_wp2_with fail
    refine (playR_any n s _ (hs.stays (by (repeat (first | with_reducible exact Below.refl _ _ | with_reducible assumption | (with_reducible refine Below.drew ?_) | (with_reducible refine Below.manyDrew ?_ _) | ((with_reducible refine Below.alloc ?_ ?_ _); rotate_left; (focus (first | omega | (dsimp only; omega) | (simp; done) | (simp; omega)))) | ((with_reducible refine Below.setCell ?_ ?_ _); rotate_left; (focus (first | omega | (dsimp only; omega) | (simp; done) | (simp; omega)))) | ((with_reducible refine Below.step ?_ (by assumption) ?_); rotate_left; (focus (first | omega | (dsimp only; omega) | (simp; done) | (simp; omega))))))))).mono ?_
    rintro e w1 ⟨⟨rA, rc, rx⟩, rfl, hr, hr1, hb1⟩
    simp only at hr
    have Hr := hid hr
    clear hr
    rw [He.out]
    go_wp2_with fail
    refine bodyPost_ret (v := .tuple #[.bool false, _]) ?_ rfl ⟨by rw [He.out], by (repeat (first | with_reducible exact Below.refl _ _ | with_reducible assumption | (with_reducible refine Below.drew ?_) | (with_reducible refine Below.manyDrew ?_ _) | ((with_reducible refine Below.alloc ?_ ?_ _); rotate_left; (focus (first | omega | (dsimp only; omega) | (simp; done) | (simp; omega)))) | ((with_reducible refine Below.setCell ?_ ?_ _); rotate_left; (focus (first | omega | (dsimp only; omega) | (simp; done) | (simp; omega)))) | ((with_reducible refine Below.step ?_ (by assumption) ?_); rotate_left; (focus (first | omega | (dsimp only; omega) | (simp; done) | (simp; omega))))))⟩
    simp [results, Tryd.results11, go_sem]
end Go.Proofs.YtdocdmpfokdjkaaDoor
