/-
  THE WALKS of merelaw1.EntryTells, case by case. CONDITIONS: errors.errorType as the program's text lays it (tied).
-/
import Derived.Test.YtbaagbmnkcempaaDoorREntry
import Derived.Test.YtbaagbmnkcempaaDoorDoor
import Derived.Deep.DeepCutAuto
namespace Go.Proofs.YtbaagbmnkcempaaDoor
open Go.RowKit
open Go.ChangeShapes Go.WideShapes Go.ChangeAt

set_option maxHeartbeats 8000000 in
theorem entryTells_bad (k v a : Int) (g : Bool) (t : ByteArray) (k' v' a' : Int) (g' : Bool) (t' : ByteArray) (n : Int) (ht : t.size ≤ maxLen) (ht' : t'.size ≤ maxLen) (w : World) (hgl : Gl w) (hc : chk ⟨k, v, a, g, t⟩ ≠ 0) :
    Calls Tryd.prog 5 #[.agg #[.int .i64 k, .int .i64 v, .int .i64 a, .bool g, .string t], .agg #[.int .i64 k', .int .i64 v', .int .i64 a', .bool g', .string t'], .int .i64 n] w fun e w' => e = .returned (.bool true) ∧ Below w.heap.size w w' := by
  have hlt := hgl.lt
  have hA : (chk ⟨k, v, a, g, t⟩ == 0) = false := by simpa using hc
  have hT : trueR ⟨k, v, a, g, t⟩ n = (false, chk ⟨k, v, a, g, t⟩) := by rw [trueR, if_neg hc]
  have hJ : joinR ⟨k, v, a, g, t⟩ ⟨k', v', a', g', t'⟩ = (E.zero, chk ⟨k, v, a, g, t⟩) := by
    have h2 : chk2 ⟨k, v, a, g, t⟩ ⟨k', v', a', g', t'⟩ = chk ⟨k, v, a, g, t⟩ := if_neg hc
    rw [joinR, h2, if_neg hc]
  have HJ := hid hJ
  clear hc hJ
  go_enter Tryd.func5, Tryd.ntmps5
  go_upto_region 12 with (first | (go_at_call 14; refine (rentry_any _ _ _ _ _ _ (by assumption)).mono ?_; rintro e wx ⟨rfl, hbx⟩; obtain ⟨hcx, hfx⟩ := bcell hbx; have hzx := hbx.size; (try simp only [World.size_alloc] at hzx); (try simp only [World.size_setCell] at hzx); have hlx0 : w.heap.size < wx.heap.size := (by omega); have hlx1 : w.heap.size + 1 < wx.heap.size := (by omega)) | (go_at_call 21; refine (check_any _ _ _ _ _ _ (by assumption)).mono ?_; rintro e wx ⟨rfl, hbx⟩; obtain ⟨hcx, hfx⟩ := bcell hbx; have hzx := hbx.size; (try simp only [World.size_alloc] at hzx); (try simp only [World.size_setCell] at hzx); have hlx0 : w.heap.size < wx.heap.size := (by omega); have hlx1 : w.heap.size + 1 < wx.heap.size := (by omega)) | (go_at_call 10; refine (error_any _ _ _ (by (repeat (first | with_reducible assumption | (with_reducible refine Gl.drew ?_) | (with_reducible refine Gl.alloc ?_ _) | ((with_reducible refine Gl.belowS ?_ (by assumption))) | ((with_reducible refine Gl.setCell ?_ ?_ _); rotate_left; (focus (first | omega | (dsimp only; omega) | (simp; done) | (simp; omega)))))))).mono ?_; rintro e wx ⟨rfl, hbx⟩; obtain ⟨hcx, hfx⟩ := bcell hbx; have hzx := hbx.size; (try simp only [World.size_alloc] at hzx); (try simp only [World.size_setCell] at hzx); have hlx0 : w.heap.size < wx.heap.size := (by omega); have hlx1 : w.heap.size + 1 < wx.heap.size := (by omega)) | (go_at_call 22; refine (true_any _ _ _ _ _ _ (by assumption) _).mono ?_; rintro e wx ⟨rfl, hbx⟩; obtain ⟨hcx, hfx⟩ := bcell hbx; have hzx := hbx.size; (try simp only [World.size_alloc] at hzx); (try simp only [World.size_setCell] at hzx); have hlx0 : w.heap.size < wx.heap.size := (by omega); have hlx1 : w.heap.size + 1 < wx.heap.size := (by omega)))
  go_wp2_with fail
  refine (join_any k v a g t k' v' a' g' t' ht ht' _).mono ?_
  rw [HJ.out]
  unfold E.val E.zero
  rintro e w2 ⟨rfl, hb2⟩; obtain ⟨hc2, hf2⟩ := bcell hb2; have hz2 := hb2.size; (try simp only [World.size_alloc] at hz2); (try simp only [World.size_setCell] at hz2)
  have hl1 : w.heap.size < w2.heap.size := by omega
  have hl2 : w.heap.size + 1 < w2.heap.size := by omega
  have hl3 : wx.heap.size < w2.heap.size := by omega
  go_wp2_with fail
  refine (error_any _ _ _ (by (repeat (first | with_reducible assumption | (with_reducible refine Gl.drew ?_) | (with_reducible refine Gl.alloc ?_ _) | ((with_reducible refine Gl.belowS ?_ (by assumption))) | ((with_reducible refine Gl.setCell ?_ ?_ _); rotate_left; (focus (first | omega | (dsimp only; omega) | (simp; done) | (simp; omega)))))))).mono ?_
  rintro e w3 ⟨rfl, hb3⟩; obtain ⟨hc3, hf3⟩ := bcell hb3; have hz3 := hb3.size; (try simp only [World.size_alloc] at hz3); (try simp only [World.size_setCell] at hz3)
  have hl4 : wx.heap.size < w3.heap.size := by omega
  have hl5 : w2.heap.size < w3.heap.size := by omega
  go_wp2_with fail
  go_ret
  exact ⟨rfl, by (repeat (first | with_reducible exact Below.refl _ _ | with_reducible assumption | (with_reducible refine Below.drew ?_) | ((with_reducible refine Below.alloc ?_ ?_ _); rotate_left; (focus (first | omega | (dsimp only; omega) | (simp; done) | (simp; omega)))) | ((with_reducible refine Below.setCell ?_ ?_ _); rotate_left; (focus (first | omega | (dsimp only; omega) | (simp; done) | (simp; omega)))) | ((with_reducible refine Below.step ?_ (by assumption) ?_); rotate_left; (focus (first | omega | (dsimp only; omega) | (simp; done) | (simp; omega))))))⟩

set_option maxHeartbeats 8000000 in
theorem entryTells_refused (k v a : Int) (g : Bool) (t : ByteArray) (k' v' a' : Int) (g' : Bool) (t' : ByteArray) (n : Int) (ht : t.size ≤ maxLen) (ht' : t'.size ≤ maxLen) (w : World) (hgl : Gl w) (x2 : Int) (hc : chk ⟨k, v, a, g, t⟩ = 0) (hn : (∃ y, trueR ⟨k, v, a, g, t⟩ n = (false, y) ∧ y = 1 ∧ (n < 0 ∨ 0 ≤ n ∧ 1000 < n)) ∨ (trueR ⟨k, v, a, g, t⟩ n = (decide (v ≤ n) && decide (n ≤ a), 0) ∧ 0 ≤ n ∧ n ≤ 1000))
    (HJ : Hid (joinR ⟨k, v, a, g, t⟩ ⟨k', v', a', g', t'⟩ = (E.zero, x2))) (hb : ((chk ⟨k', v', a', g', t'⟩ == 0) = false ∧ x2 = chk ⟨k', v', a', g', t'⟩) ∨ (chk ⟨k', v', a', g', t'⟩ = 0 ∧ (k == k') = false ∧ x2 = 3)) :
    Calls Tryd.prog 5 #[.agg #[.int .i64 k, .int .i64 v, .int .i64 a, .bool g, .string t], .agg #[.int .i64 k', .int .i64 v', .int .i64 a', .bool g', .string t'], .int .i64 n] w fun e w' => e = .returned (.bool true) ∧ Below w.heap.size w w' := by
  have hlt := hgl.lt
  rcases hn with ⟨y, hT, rfl, hn | ⟨hn, hn'⟩⟩ | ⟨hT, hn, hn'⟩
  all_goals
    rcases hb with ⟨hb, rfl⟩ | ⟨hb, hk, rfl⟩
  all_goals
    go_enter Tryd.func5, Tryd.ntmps5
    go_upto_region 12 with (first | (go_at_call 14; refine (rentry_any _ _ _ _ _ _ (by assumption)).mono ?_; rintro e wx ⟨rfl, hbx⟩; obtain ⟨hcx, hfx⟩ := bcell hbx; have hzx := hbx.size; (try simp only [World.size_alloc] at hzx); (try simp only [World.size_setCell] at hzx); have hlx0 : w.heap.size < wx.heap.size := (by omega); have hlx1 : w.heap.size + 1 < wx.heap.size := (by omega)) | (go_at_call 21; refine (check_any _ _ _ _ _ _ (by assumption)).mono ?_; rintro e wx ⟨rfl, hbx⟩; obtain ⟨hcx, hfx⟩ := bcell hbx; have hzx := hbx.size; (try simp only [World.size_alloc] at hzx); (try simp only [World.size_setCell] at hzx); have hlx0 : w.heap.size < wx.heap.size := (by omega); have hlx1 : w.heap.size + 1 < wx.heap.size := (by omega)) | (go_at_call 10; refine (error_any _ _ _ (by (repeat (first | with_reducible assumption | (with_reducible refine Gl.drew ?_) | (with_reducible refine Gl.alloc ?_ _) | ((with_reducible refine Gl.belowS ?_ (by assumption))) | ((with_reducible refine Gl.setCell ?_ ?_ _); rotate_left; (focus (first | omega | (dsimp only; omega) | (simp; done) | (simp; omega)))))))).mono ?_; rintro e wx ⟨rfl, hbx⟩; obtain ⟨hcx, hfx⟩ := bcell hbx; have hzx := hbx.size; (try simp only [World.size_alloc] at hzx); (try simp only [World.size_setCell] at hzx); have hlx0 : w.heap.size < wx.heap.size := (by omega); have hlx1 : w.heap.size + 1 < wx.heap.size := (by omega)) | (go_at_call 22; refine (true_any _ _ _ _ _ _ (by assumption) _).mono ?_; rintro e wx ⟨rfl, hbx⟩; obtain ⟨hcx, hfx⟩ := bcell hbx; have hzx := hbx.size; (try simp only [World.size_alloc] at hzx); (try simp only [World.size_setCell] at hzx); have hlx0 : w.heap.size < wx.heap.size := (by omega); have hlx1 : w.heap.size + 1 < wx.heap.size := (by omega)))
  all_goals
    go_wp2_with fail
    refine (join_any k v a g t k' v' a' g' t' ht ht' _).mono ?_
    rw [HJ.out]
    unfold E.val E.zero
    rintro e w2 ⟨rfl, hb2⟩; obtain ⟨hc2, hf2⟩ := bcell hb2; have hz2 := hb2.size; (try simp only [World.size_alloc] at hz2); (try simp only [World.size_setCell] at hz2)
    have hl1 : w.heap.size < w2.heap.size := by omega
    have hl2 : w.heap.size + 1 < w2.heap.size := by omega
    have hl3 : wx.heap.size < w2.heap.size := by omega
    go_wp2_with fail
    refine (error_any _ _ _ (by (repeat (first | with_reducible assumption | (with_reducible refine Gl.drew ?_) | (with_reducible refine Gl.alloc ?_ _) | ((with_reducible refine Gl.belowS ?_ (by assumption))) | ((with_reducible refine Gl.setCell ?_ ?_ _); rotate_left; (focus (first | omega | (dsimp only; omega) | (simp; done) | (simp; omega)))))))).mono ?_
    rintro e w3 ⟨rfl, hb3⟩; obtain ⟨hc3, hf3⟩ := bcell hb3; have hz3 := hb3.size; (try simp only [World.size_alloc] at hz3); (try simp only [World.size_setCell] at hz3)
    have hl4 : wx.heap.size < w3.heap.size := by omega
    have hl5 : w2.heap.size < w3.heap.size := by omega
    go_wp2_with fail
    go_ret
    exact ⟨rfl, by (repeat (first | with_reducible exact Below.refl _ _ | with_reducible assumption | (with_reducible refine Below.drew ?_) | ((with_reducible refine Below.alloc ?_ ?_ _); rotate_left; (focus (first | omega | (dsimp only; omega) | (simp; done) | (simp; omega)))) | ((with_reducible refine Below.setCell ?_ ?_ _); rotate_left; (focus (first | omega | (dsimp only; omega) | (simp; done) | (simp; omega)))) | ((with_reducible refine Below.step ?_ (by assumption) ?_); rotate_left; (focus (first | omega | (dsimp only; omega) | (simp; done) | (simp; omega))))))⟩

set_option maxHeartbeats 8000000 in
theorem entryTells_join (k v a : Int) (g : Bool) (t : ByteArray) (v' a' : Int) (g' : Bool) (t' : ByteArray) (n : Int) (ht : t.size ≤ maxLen) (ht' : t'.size ≤ maxLen) (w : World) (hgl : Gl w) (r : E × Int) (hc : chk ⟨k, v, a, g, t⟩ = 0) (hn : (∃ y, trueR ⟨k, v, a, g, t⟩ n = (false, y) ∧ y = 1 ∧ (n < 0 ∨ 0 ≤ n ∧ 1000 < n)) ∨ (trueR ⟨k, v, a, g, t⟩ n = (decide (v ≤ n) && decide (n ≤ a), 0) ∧ 0 ≤ n ∧ n ≤ 1000))
    (HJ : Hid (joinR ⟨k, v, a, g, t⟩ ⟨k, v', a', g', t'⟩ = r)) (HR : Hid (rjoin ⟨k, v, a, g, t⟩ ⟨k, v', a', g', t'⟩ = r)) (hb : chk ⟨k, v', a', g', t'⟩ = 0) :
    Calls Tryd.prog 5 #[.agg #[.int .i64 k, .int .i64 v, .int .i64 a, .bool g, .string t], .agg #[.int .i64 k, .int .i64 v', .int .i64 a', .bool g', .string t'], .int .i64 n] w fun e w' => e = .returned (.bool true) ∧ Below w.heap.size w w' := by
  have hlt := hgl.lt
  obtain ⟨⟨k1, v1, a1, g1, t1⟩, n1⟩ := r
  rcases hn with ⟨y, hT, rfl, hn | ⟨hn, hn'⟩⟩ | ⟨hT, hn, hn'⟩
  all_goals
    go_enter Tryd.func5, Tryd.ntmps5
    go_upto_region 12 with (first | (go_at_call 14; refine (rentry_any _ _ _ _ _ _ (by assumption)).mono ?_; rintro e wx ⟨rfl, hbx⟩; obtain ⟨hcx, hfx⟩ := bcell hbx; have hzx := hbx.size; (try simp only [World.size_alloc] at hzx); (try simp only [World.size_setCell] at hzx); have hlx0 : w.heap.size < wx.heap.size := (by omega); have hlx1 : w.heap.size + 1 < wx.heap.size := (by omega)) | (go_at_call 21; refine (check_any _ _ _ _ _ _ (by assumption)).mono ?_; rintro e wx ⟨rfl, hbx⟩; obtain ⟨hcx, hfx⟩ := bcell hbx; have hzx := hbx.size; (try simp only [World.size_alloc] at hzx); (try simp only [World.size_setCell] at hzx); have hlx0 : w.heap.size < wx.heap.size := (by omega); have hlx1 : w.heap.size + 1 < wx.heap.size := (by omega)) | (go_at_call 10; refine (error_any _ _ _ (by (repeat (first | with_reducible assumption | (with_reducible refine Gl.drew ?_) | (with_reducible refine Gl.alloc ?_ _) | ((with_reducible refine Gl.belowS ?_ (by assumption))) | ((with_reducible refine Gl.setCell ?_ ?_ _); rotate_left; (focus (first | omega | (dsimp only; omega) | (simp; done) | (simp; omega)))))))).mono ?_; rintro e wx ⟨rfl, hbx⟩; obtain ⟨hcx, hfx⟩ := bcell hbx; have hzx := hbx.size; (try simp only [World.size_alloc] at hzx); (try simp only [World.size_setCell] at hzx); have hlx0 : w.heap.size < wx.heap.size := (by omega); have hlx1 : w.heap.size + 1 < wx.heap.size := (by omega)) | (go_at_call 22; refine (true_any _ _ _ _ _ _ (by assumption) _).mono ?_; rintro e wx ⟨rfl, hbx⟩; obtain ⟨hcx, hfx⟩ := bcell hbx; have hzx := hbx.size; (try simp only [World.size_alloc] at hzx); (try simp only [World.size_setCell] at hzx); have hlx0 : w.heap.size < wx.heap.size := (by omega); have hlx1 : w.heap.size + 1 < wx.heap.size := (by omega)))
  all_goals
    go_wp2_with fail
    refine (rjoin_any k v a g t k v' a' g' t' _).mono ?_
    rw [HR.out]
    unfold E.val
    rintro e w1 ⟨rfl, hb1⟩; obtain ⟨hc1, hf1⟩ := bcell hb1; have hz1 := hb1.size; (try simp only [World.size_alloc] at hz1); (try simp only [World.size_setCell] at hz1)
    have hk1 : w.heap.size < w1.heap.size := by omega
    have hk2 : w.heap.size + 1 < w1.heap.size := by omega
    have hk3 : wx.heap.size < w1.heap.size := by omega
    go_wp2_with fail
    refine (join_any k v a g t k v' a' g' t' ht ht' _).mono ?_
    rw [HJ.out]
    unfold E.val
    rintro e w2 ⟨rfl, hb2⟩; obtain ⟨hc2, hf2⟩ := bcell hb2; have hz2 := hb2.size; (try simp only [World.size_alloc] at hz2); (try simp only [World.size_setCell] at hz2)
    have hl1 : w.heap.size < w2.heap.size := by omega
    have hl2 : w.heap.size + 1 < w2.heap.size := by omega
    have hl3 : wx.heap.size < w2.heap.size := by omega
    go_wp2_with fail
    refine (error_any _ _ _ (by (repeat (first | with_reducible assumption | (with_reducible refine Gl.drew ?_) | (with_reducible refine Gl.alloc ?_ _) | ((with_reducible refine Gl.belowS ?_ (by assumption))) | ((with_reducible refine Gl.setCell ?_ ?_ _); rotate_left; (focus (first | omega | (dsimp only; omega) | (simp; done) | (simp; omega)))))))).mono ?_
    rintro e w3 ⟨rfl, hb3⟩; obtain ⟨hc3, hf3⟩ := bcell hb3; have hz3 := hb3.size; (try simp only [World.size_alloc] at hz3); (try simp only [World.size_setCell] at hz3)
    have hl4 : wx.heap.size < w3.heap.size := by omega
    have hl5 : w2.heap.size < w3.heap.size := by omega
    go_wp2_with fail
    go_ret
    exact ⟨rfl, by (repeat (first | with_reducible exact Below.refl _ _ | with_reducible assumption | (with_reducible refine Below.drew ?_) | ((with_reducible refine Below.alloc ?_ ?_ _); rotate_left; (focus (first | omega | (dsimp only; omega) | (simp; done) | (simp; omega)))) | ((with_reducible refine Below.setCell ?_ ?_ _); rotate_left; (focus (first | omega | (dsimp only; omega) | (simp; done) | (simp; omega)))) | ((with_reducible refine Below.step ?_ (by assumption) ?_); rotate_left; (focus (first | omega | (dsimp only; omega) | (simp; done) | (simp; omega))))))⟩

end Go.Proofs.YtbaagbmnkcempaaDoor
