/-
  CONTRACTS of entry.checks, entry.Join, entry.True. CONDITIONS: none.
-/
import Derived.Test.YtbaagbmnkcempaaJoin
namespace Go.Proofs.Ytbaagbmnkcempaa
open Go.RowKit
open Go.ChangeShapes Go.WideShapes Go.ChangeAt

def chk2 (a b : E) : Int := if chk a = 0 then chk b else chk a

set_option maxHeartbeats 2000000 in
theorem checks_any (k v a : Int) (g : Bool) (t : ByteArray) (k' v' a' : Int) (g' : Bool) (t' : ByteArray) (ht : t.size ≤ maxLen) (ht' : t'.size ≤ maxLen) (G : Nat) (w : World)
    (hB : Blk w G 28 #[.int .i64 k, .int .i64 v, .int .i64 a, .bool g, .string t, .int .i64 k', .int .i64 v', .int .i64 a', .bool g', .string t']) :
    Calls Try.prog 19 #[.slice (some ⟨G, 0, none⟩) 2 2] w fun e w' => e = .returned (errV (chk2 ⟨k, v, a, g, t⟩ ⟨k', v', a', g', t'⟩)) ∧ Below w.heap.size w w' := by
  have hlt := hB.lt
  have c0 : w.cell? ⟨G, 0, none⟩ = some (.int .i64 k) := hB.cell 0
  have c1 : w.cell? ⟨G, 1, none⟩ = some (.int .i64 v) := hB.cell 1
  have c2 : w.cell? ⟨G, 2, none⟩ = some (.int .i64 a) := hB.cell 2
  have c3 : w.cell? ⟨G, 3, none⟩ = some (.bool g) := hB.cell 3
  have c4 : w.cell? ⟨G, 4, none⟩ = some (.string t) := hB.cell 4
  have c5 : w.cell? ⟨G, 5, none⟩ = some (.int .i64 k') := hB.cell 5
  have c6 : w.cell? ⟨G, 6, none⟩ = some (.int .i64 v') := hB.cell 6
  have c7 : w.cell? ⟨G, 7, none⟩ = some (.int .i64 a') := hB.cell 7
  have c8 : w.cell? ⟨G, 8, none⟩ = some (.bool g') := hB.cell 8
  have c9 : w.cell? ⟨G, 9, none⟩ = some (.string t') := hB.cell 9
  generalize hr : chk2 ⟨k, v, a, g, t⟩ ⟨k', v', a', g', t'⟩ = r
  have Hr := hid hr
  clear hr hB
  by_cases ha : chk ⟨k, v, a, g, t⟩ = 0
  · have he : errV (chk ⟨k, v, a, g, t⟩) = .nilIface := by rw [ha]; rfl
    have hr : chk ⟨k', v', a', g', t'⟩ = r := by rw [← Hr.out, chk2, if_pos ha]
    clear ha Hr
    have Hr := hid hr
    clear hr
    by_cases hz : chk ⟨k', v', a', g', t'⟩ = 0
    · have he' : errV (chk ⟨k', v', a', g', t'⟩) = .nilIface := by rw [hz]; rfl
      clear hz
      go_enter Try.func19, Try.ntmps19
      go_wp2
      refine wp_loop_rounds 3 ?_
      rw [rounds_succ]
      go_wp2_with fail
      refine (check_any k v a g t _ ht).mono ?_; rintro e w1 ⟨rfl, hb1⟩; obtain ⟨hc1, hf1⟩ := bcell hb1; have hz1 := hb1.size; (try simp only [World.size_alloc] at hz1); (try simp only [World.size_setCell] at hz1)
      go_wp2_with fail
      rw [rounds_succ]
      go_wp2_with fail
      refine (check_any k' v' a' g' t' _ ht').mono ?_; rintro e w2 ⟨rfl, hb2⟩; obtain ⟨hc2, hf2⟩ := bcell hb2; have hz2 := hb2.size; (try simp only [World.size_alloc] at hz2); (try simp only [World.size_setCell] at hz2)
      go_wp2_with fail
      rw [rounds_succ]
      go_wp2_with fail
      go_ret
      exact ⟨by rw [← Hr.out]; exact congrArg _ he'.symm, by (repeat (first | with_reducible exact Below.refl _ _ | with_reducible assumption | (with_reducible refine Below.drew ?_) | (with_reducible refine Below.manyDrew ?_ _) | ((with_reducible refine Below.alloc ?_ ?_ _); rotate_left; (focus (first | omega | (dsimp only; omega) | (simp; done) | (simp; omega)))) | ((with_reducible refine Below.setCell ?_ ?_ _); rotate_left; (focus (first | omega | (dsimp only; omega) | (simp; done) | (simp; omega)))) | ((with_reducible refine Below.step ?_ (by assumption) ?_); rotate_left; (focus (first | omega | (dsimp only; omega) | (simp; done) | (simp; omega))))))⟩
    · have he' := errV_ne hz
      clear hz
      go_enter Try.func19, Try.ntmps19
      go_wp2
      refine wp_loop_rounds 3 ?_
      rw [rounds_succ]
      go_wp2_with fail
      refine (check_any k v a g t _ ht).mono ?_; rintro e w1 ⟨rfl, hb1⟩; obtain ⟨hc1, hf1⟩ := bcell hb1; have hz1 := hb1.size; (try simp only [World.size_alloc] at hz1); (try simp only [World.size_setCell] at hz1)
      go_wp2_with fail
      rw [rounds_succ]
      go_wp2_with fail
      refine (check_any k' v' a' g' t' _ ht').mono ?_; rintro e w2 ⟨rfl, hb2⟩; obtain ⟨hc2, hf2⟩ := bcell hb2; have hz2 := hb2.size; (try simp only [World.size_alloc] at hz2); (try simp only [World.size_setCell] at hz2)
      go_wp2_with fail
      go_ret
      exact ⟨by rw [← Hr.out]; exact congrArg _ he'.symm, by (repeat (first | with_reducible exact Below.refl _ _ | with_reducible assumption | (with_reducible refine Below.drew ?_) | (with_reducible refine Below.manyDrew ?_ _) | ((with_reducible refine Below.alloc ?_ ?_ _); rotate_left; (focus (first | omega | (dsimp only; omega) | (simp; done) | (simp; omega)))) | ((with_reducible refine Below.setCell ?_ ?_ _); rotate_left; (focus (first | omega | (dsimp only; omega) | (simp; done) | (simp; omega)))) | ((with_reducible refine Below.step ?_ (by assumption) ?_); rotate_left; (focus (first | omega | (dsimp only; omega) | (simp; done) | (simp; omega))))))⟩
  · have he := errV_ne ha
    have hr : chk ⟨k, v, a, g, t⟩ = r := by rw [← Hr.out, chk2, if_neg ha]
    clear ha Hr
    have Hr := hid hr
    clear hr
    go_enter Try.func19, Try.ntmps19
    go_wp2
    refine wp_loop_rounds 3 ?_
    rw [rounds_succ]
    go_wp2_with fail
    refine (check_any k v a g t _ ht).mono ?_; rintro e w1 ⟨rfl, hb1⟩; obtain ⟨hc1, hf1⟩ := bcell hb1; have hz1 := hb1.size; (try simp only [World.size_alloc] at hz1); (try simp only [World.size_setCell] at hz1)
    go_wp2_with fail
    go_ret
    exact ⟨by rw [← Hr.out]; exact congrArg _ he.symm, by (repeat (first | with_reducible exact Below.refl _ _ | with_reducible assumption | (with_reducible refine Below.drew ?_) | (with_reducible refine Below.manyDrew ?_ _) | ((with_reducible refine Below.alloc ?_ ?_ _); rotate_left; (focus (first | omega | (dsimp only; omega) | (simp; done) | (simp; omega)))) | ((with_reducible refine Below.setCell ?_ ?_ _); rotate_left; (focus (first | omega | (dsimp only; omega) | (simp; done) | (simp; omega)))) | ((with_reducible refine Below.step ?_ (by assumption) ?_); rotate_left; (focus (first | omega | (dsimp only; omega) | (simp; done) | (simp; omega))))))⟩

end Go.Proofs.Ytbaagbmnkcempaa
