/-
  CONTRACTS of plain.Told and meresame.Error at nil and at every Errno, where errors.errorType reads as the program's text lays it. CONDITIONS: that reading (Gl).
-/
import Derived.Test.YtgamocljdbffpaaDoorAs
namespace Go.Proofs.YtgamocljdbffpaaDoor
open Go.RowKit Go.Extern.Stop Go.Stop Go.Extern
open Go.ChangeShapes Go.WideShapes Go.ChangeAt

/-- errors.errorType holds the handle of the type error -/
def Gl (w : World) : Prop := w.cell? ⟨0, 0, none⟩ = some (.iface 136 (.agg #[.pointer (some ⟨1, 41, none⟩)]))
theorem Gl.lt {w : World} (h : Gl w) : 0 < w.heap.size := cell_lt h
theorem Gl.below {w w' : World} {B : Nat} (h : Gl w) (hb : Below B w w') (hB : 0 < B) : Gl w' := (hb.cell (p := ⟨0, 0, none⟩) hB).trans h
theorem Gl.belowS {w w' : World} (h : Gl w) (hb : Below w.heap.size w w') : Gl w' := h.below hb h.lt
theorem Gl.alloc {w : World} (h : Gl w) (o : Obj) : Gl (w.alloc o) := (World.cell?_alloc_lt w o ⟨0, 0, none⟩ h.lt).trans h
theorem Gl.setCell {w : World} (h : Gl w) {p : Addr} (hp : p.block ≠ 0) (u : Value) : Gl (w.setCell p u) := (World.cell?_setCell_other w p ⟨0, 0, none⟩ u (fun e => hp (by rw [e]))).trans h
theorem Gl.drew {w : World} (h : Gl w) : Gl w.drew := h
theorem Gl.drewN {w : World} (h : Gl w) (n : Nat) : Gl (w.drewN n) := h
theorem Gl.fr {S : Nat → Prop} {w w' : World} (h : Gl w) (hf : Fr S w w') (hn : ¬ S 0) : Gl w' := (hf.cell (p := ⟨0, 0, none⟩) h.lt hn).trans h

set_option maxHeartbeats 2000000 in
theorem told_any (n : Int) (w : World) (hg : Gl w) : Calls Tryd.prog 34 #[errV n] w fun e w' => e = .returned (.int .i64 n) ∧ Below w.heap.size w w' := by
  by_cases h0 : n = 0
  · subst h0
    rw [errV_zero]
    go_enter Tryd.func34, Tryd.ntmps34
    go_wp2
    go_ret
    exact ⟨rfl, by (repeat (first | with_reducible exact Below.refl _ _ | with_reducible assumption | (with_reducible refine Below.drew ?_) | (with_reducible refine Below.manyDrew ?_ _) | ((with_reducible refine Below.alloc ?_ ?_ _); rotate_left; (focus (first | omega | (dsimp only; omega) | (simp; done) | (simp; omega)))) | ((with_reducible refine Below.setCell ?_ ?_ _); rotate_left; (focus (first | omega | (dsimp only; omega) | (simp; done) | (simp; omega)))) | ((with_reducible refine Below.step ?_ (by assumption) ?_); rotate_left; (focus (first | omega | (dsimp only; omega) | (simp; done) | (simp; omega))))))⟩
  · rw [errV_ne h0]
    have hlt := hg.lt
    have hg1 := hg.alloc (.cells #[.int .i64 0] 86)
    unfold Gl at hg1
    clear h0
    go_enter Tryd.func34, Tryd.ntmps34
    go_wp2_with fail
    refine (as_hit n ⟨w.heap.size, 0, none⟩ (.int .i64 0) _ hg1 (by simp) (by simp)).mono ?_
    rintro e w1 ⟨rfl, rfl⟩
    go_wp2
    go_ret
    refine ⟨rfl, ?_⟩
    (repeat (first | with_reducible exact Below.refl _ _ | with_reducible assumption | (with_reducible refine Below.drew ?_) | (with_reducible refine Below.manyDrew ?_ _) | ((with_reducible refine Below.alloc ?_ ?_ _); rotate_left; (focus (first | omega | (dsimp only; omega) | (simp; done) | (simp; omega)))) | ((with_reducible refine Below.setCell ?_ ?_ _); rotate_left; (focus (first | omega | (dsimp only; omega) | (simp; done) | (simp; omega)))) | ((with_reducible refine Below.step ?_ (by assumption) ?_); rotate_left; (focus (first | omega | (dsimp only; omega) | (simp; done) | (simp; omega))))))

set_option maxHeartbeats 2000000 in
theorem error_any (n m : Int) (w : World) (hg : Gl w) : Calls Tryd.prog 8 #[errV n, .int .i64 m] w fun e w' => e = .returned (.bool (n == m)) ∧ Below w.heap.size w w' := by
  go_enter Tryd.func8, Tryd.ntmps8
  go_wp2_with fail
  refine (told_any n _ hg).mono ?_; rintro e w1 ⟨rfl, hb1⟩; obtain ⟨hc1, hf1⟩ := bcell hb1; have hz1 := hb1.size; (try simp only [World.size_alloc] at hz1); (try simp only [World.size_setCell] at hz1)
  go_wp2
  go_ret
  exact ⟨rfl, by (repeat (first | with_reducible exact Below.refl _ _ | with_reducible assumption | (with_reducible refine Below.drew ?_) | (with_reducible refine Below.manyDrew ?_ _) | ((with_reducible refine Below.alloc ?_ ?_ _); rotate_left; (focus (first | omega | (dsimp only; omega) | (simp; done) | (simp; omega)))) | ((with_reducible refine Below.setCell ?_ ?_ _); rotate_left; (focus (first | omega | (dsimp only; omega) | (simp; done) | (simp; omega)))) | ((with_reducible refine Below.step ?_ (by assumption) ?_); rotate_left; (focus (first | omega | (dsimp only; omega) | (simp; done) | (simp; omega))))))⟩
end Go.Proofs.YtgamocljdbffpaaDoor
