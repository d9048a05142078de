/-
  CONTRACTS of entry.Join. CONDITIONS: none.
-/
import Derived.Test.YtbaagbmnkcempaaJoin2
namespace Go.Proofs.Ytbaagbmnkcempaa
open Go.RowKit
open Go.ChangeShapes Go.WideShapes Go.ChangeAt

def joinR (a b : E) : E × Int := if chk2 a b = 0 then (if a.key = b.key then joined a b else (E.zero, 3)) else (E.zero, chk2 a b)

set_option maxHeartbeats 2000000 in
theorem join_any (k v a : Int) (g : Bool) (t : ByteArray) (k' v' a' : Int) (g' : Bool) (t' : ByteArray) (ht : t.size ≤ maxLen) (ht' : t'.size ≤ maxLen) (w : World) :
    Calls Try.prog 15 #[.agg #[.int .i64 k, .int .i64 v, .int .i64 a, .bool g, .string t], .agg #[.int .i64 k', .int .i64 v', .int .i64 a', .bool g', .string t']] w fun e w' =>
      e = .returned (.tuple #[(joinR ⟨k, v, a, g, t⟩ ⟨k', v', a', g', t'⟩).1.val, errV (joinR ⟨k, v, a, g, t⟩ ⟨k', v', a', g', t'⟩).2]) ∧ Below w.heap.size w w' := by
  generalize hr : joinR ⟨k, v, a, g, t⟩ ⟨k', v', a', g', t'⟩ = r
  by_cases h2 : chk2 ⟨k, v, a, g, t⟩ ⟨k', v', a', g', t'⟩ = 0
  · have he : errV (chk2 ⟨k, v, a, g, t⟩ ⟨k', v', a', g', t'⟩) = .nilIface := by rw [h2]; rfl
    rw [joinR, if_pos h2] at hr
    clear h2
    by_cases hk : k = k'
    · rw [if_pos hk] at hr
      subst hk
      generalize hj : joined ⟨k, v, a, g, t⟩ ⟨k, v', a', g', t'⟩ = j at hr
      have Hj := hid hj
      clear hj
      subst hr
      obtain ⟨⟨k1, v1, a1, g1, t1⟩, n1⟩ := j
      go_enter Try.func15, Try.ntmps15
      go_wp2_with fail
      refine (checks_any k v a g t k v' a' g' t' ht ht' _ _ (Blk.new_at (by simp))).mono ?_; rintro e w1 ⟨rfl, hb1⟩; obtain ⟨hc1, hf1⟩ := bcell hb1; have hz1 := hb1.size; (try simp only [World.size_alloc] at hz1); (try simp only [World.size_setCell] at hz1)
      go_wp2_with fail
      refine (joined_any k v a g t k v' a' g' t' _).mono ?_
      rw [Hj.out]
      unfold E.val
      rintro e w2 ⟨rfl, hb2⟩; obtain ⟨hc2, hf2⟩ := bcell hb2; have hz2 := hb2.size; (try simp only [World.size_alloc] at hz2); (try simp only [World.size_setCell] at hz2)
      have hl1 : w.heap.size + 1 + 1 < w1.heap.size := by omega
      go_wp2_with fail
      refine bodyPost_ret (v := .tuple #[.agg #[.int .i64 k1, .int .i64 v1, .int .i64 a1, .bool g1, .string t1], errV n1]) ?_ rfl ⟨rfl, ?_⟩
      · exact results_box Try.results15 rfl (Blk.put5 ((((Blk.new_at (by simp)).alloc _).belowS hb1).belowS hb2) _ _ _ _ _) Try.underlying28 rfl (by kernel_rfl)
      · (repeat (first | with_reducible exact Below.refl _ _ | with_reducible assumption | (with_reducible refine Below.drew ?_) | (with_reducible refine Below.manyDrew ?_ _) | ((with_reducible refine Below.alloc ?_ ?_ _); rotate_left; (focus (first | omega | (dsimp only; omega) | (simp; done) | (simp; omega)))) | ((with_reducible refine Below.setCell ?_ ?_ _); rotate_left; (focus (first | omega | (dsimp only; omega) | (simp; done) | (simp; omega)))) | ((with_reducible refine Below.step ?_ (by assumption) ?_); rotate_left; (focus (first | omega | (dsimp only; omega) | (simp; done) | (simp; omega))))))
    · rw [if_neg hk] at hr
      subst hr
      go_enter Try.func15, Try.ntmps15
      go_wp2_with fail
      refine (checks_any k v a g t k' v' a' g' t' ht ht' _ _ (Blk.new_at (by simp))).mono ?_; rintro e w1 ⟨rfl, hb1⟩; obtain ⟨hc1, hf1⟩ := bcell hb1; have hz1 := hb1.size; (try simp only [World.size_alloc] at hz1); (try simp only [World.size_setCell] at hz1)
      go_wp2_with fail
      refine bodyPost_ret (v := .tuple #[E.zero.val, errV 3]) ?_ rfl ⟨rfl, ?_⟩
      · exact results_box Try.results15 rfl (Blk.put5 (((Blk.new_at (by simp)).alloc _).belowS hb1) _ _ _ _ _) Try.underlying28 rfl (by kernel_rfl)
      · (repeat (first | with_reducible exact Below.refl _ _ | with_reducible assumption | (with_reducible refine Below.drew ?_) | (with_reducible refine Below.manyDrew ?_ _) | ((with_reducible refine Below.alloc ?_ ?_ _); rotate_left; (focus (first | omega | (dsimp only; omega) | (simp; done) | (simp; omega)))) | ((with_reducible refine Below.setCell ?_ ?_ _); rotate_left; (focus (first | omega | (dsimp only; omega) | (simp; done) | (simp; omega)))) | ((with_reducible refine Below.step ?_ (by assumption) ?_); rotate_left; (focus (first | omega | (dsimp only; omega) | (simp; done) | (simp; omega))))))
  · have he := errV_ne h2
    rw [joinR, if_neg h2] at hr
    clear h2
    subst hr
    go_enter Try.func15, Try.ntmps15
    go_wp2_with fail
    refine (checks_any k v a g t k' v' a' g' t' ht ht' _ _ (Blk.new_at (by simp))).mono ?_; rintro e w1 ⟨rfl, hb1⟩; obtain ⟨hc1, hf1⟩ := bcell hb1; have hz1 := hb1.size; (try simp only [World.size_alloc] at hz1); (try simp only [World.size_setCell] at hz1)
    go_wp2_with fail
    refine bodyPost_ret (v := .tuple #[E.zero.val, errV (chk2 ⟨k, v, a, g, t⟩ ⟨k', v', a', g', t'⟩)]) ?_ rfl ⟨rfl, ?_⟩
    · rw [he]
      exact results_box Try.results15 rfl (Blk.put5 (((Blk.new_at (by simp)).alloc _).belowS hb1) _ _ _ _ _) Try.underlying28 rfl (by kernel_rfl)
    · (repeat (first | with_reducible exact Below.refl _ _ | with_reducible assumption | (with_reducible refine Below.drew ?_) | (with_reducible refine Below.manyDrew ?_ _) | ((with_reducible refine Below.alloc ?_ ?_ _); rotate_left; (focus (first | omega | (dsimp only; omega) | (simp; done) | (simp; omega)))) | ((with_reducible refine Below.setCell ?_ ?_ _); rotate_left; (focus (first | omega | (dsimp only; omega) | (simp; done) | (simp; omega)))) | ((with_reducible refine Below.step ?_ (by assumption) ?_); rotate_left; (focus (first | omega | (dsimp only; omega) | (simp; done) | (simp; omega))))))
end Go.Proofs.Ytbaagbmnkcempaa
