/-
  CONTRACT of slices.Clone at api.Entry. CONDITIONS: none.
-/
import Derived.Test.YtdocdmpfokdjkaaEKit
import Derived.Lib.SliceRun
namespace Go.Proofs.Ytdocdmpfokdjkaa
open Go.RowKit
open Go.ChangeShapes Go.WideShapes Go.ChangeAt

set_option maxHeartbeats 1000000 in
theorem eclone_any (s : SlV E) (w : World) (hs : EsAt w s) (hn : s.xs.length ≤ 1000) :
    Calls Try.prog 42 #[.slice s.A s.xs.length s.c] w fun e w' => ∃ v, e = .returned v ∧ Ow E.cells 5 w.heap.size 47 w' v s.xs ∧ Below w.heap.size w w' := by
  have hnil := fun (W : World) (A : Option Addr) (n c n' c' : Nat) => Lib.run_eql_slice_nil (P := Try.prog) W 52 47 A n c n' c' Try.underlying52
  rcases hA : s.A with _ | a
  · have h0 : s.xs = [] := by
      rcases Nat.eq_zero_or_pos s.xs.length with h | h
      · exact List.eq_nil_of_length_eq_zero h
      · obtain ⟨b, off, h1, _⟩ := hs.row h
        rw [hA] at h1; cases h1
    have H0 := hid h0
    clear hA h0
    go_enter Try.func42, Try.ntmps42
    go_wp2_with fail
    go_ret
    exact ⟨_, rfl, by rw [H0.out]; exact Ow.nil _ _ _ _ _, by (repeat (first | with_reducible exact Below.refl _ _ | with_reducible assumption | (with_reducible refine Below.drew ?_) | (with_reducible refine Below.manyDrew ?_ _) | ((with_reducible refine Below.alloc ?_ ?_ _); rotate_left; (focus (first | omega | (dsimp only; omega) | (simp; done) | (simp; omega)))) | ((with_reducible refine Below.setCell ?_ ?_ _); rotate_left; (focus (first | omega | (dsimp only; omega) | (simp; done) | (simp; omega)))) | ((with_reducible refine Below.step ?_ (by assumption) ?_); rotate_left; (focus (first | omega | (dsimp only; omega) | (simp; done) | (simp; omega))))))⟩
  · have hs2 : EsAt w ⟨some a, s.c, s.xs⟩ := by rw [← hA]; exact hs
    clear hA
    have hnb : (some a).isNone = false := rfl
    go_enter Try.func42, Try.ntmps42
    go_wp2_with (at_builtin; refine appEs _ w.heap.size _ [] ⟨some a, s.c, s.xs⟩ (hs2.stays ?c0) (Ow.bare _ _ _ _ _ _) rfl _ _ rfl rfl rfl ?c1 ?c2 ?_)
    case c0 => (repeat (first | with_reducible exact Below.refl _ _ | with_reducible assumption | (with_reducible refine Below.drew ?_) | (with_reducible refine Below.manyDrew ?_ _) | ((with_reducible refine Below.alloc ?_ ?_ _); rotate_left; (focus (first | omega | (dsimp only; omega) | (simp; done) | (simp; omega)))) | ((with_reducible refine Below.setCell ?_ ?_ _); rotate_left; (focus (first | omega | (dsimp only; omega) | (simp; done) | (simp; omega)))) | ((with_reducible refine Below.step ?_ (by assumption) ?_); rotate_left; (focus (first | omega | (dsimp only; omega) | (simp; done) | (simp; omega))))))
    case c1 => first | omega | (simp; omega)
    case c2 => first | omega | simp
    intro v' w2 hown2 hf2 _
    have hb2 : Below w.heap.size w w2 := (show Below w.heap.size w _ by (repeat (first | with_reducible exact Below.refl _ _ | with_reducible assumption | (with_reducible refine Below.drew ?_) | (with_reducible refine Below.manyDrew ?_ _) | ((with_reducible refine Below.alloc ?_ ?_ _); rotate_left; (focus (first | omega | (dsimp only; omega) | (simp; done) | (simp; omega)))) | ((with_reducible refine Below.setCell ?_ ?_ _); rotate_left; (focus (first | omega | (dsimp only; omega) | (simp; done) | (simp; omega)))) | ((with_reducible refine Below.step ?_ (by assumption) ?_); rotate_left; (focus (first | omega | (dsimp only; omega) | (simp; done) | (simp; omega))))))).trans (hf2.below0 (by simp) (fun i hi => by cases hi))
    clear hf2
    go_wp2_with fail
    go_ret
    exact ⟨v', rfl, hown2, hb2⟩
end Go.Proofs.Ytdocdmpfokdjkaa
