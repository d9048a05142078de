/-
  CONTRACT of mesh.Seq. CONDITIONS: none.
-/
import Derived.Test.YtneilklimpdeoaaGreatDoorMeshW
namespace Go.Proofs.YtneilklimpdeoaaGreatDoor
open Go.RowKit
open Go.ChangeShapes Go.WideShapes Go.ChangeAt

theorem mseqW {base m : Nat} {D : List E} {C : List (List E)} {A : Nat → Prop} (w : World) (h : MeshW base w m D C A) :
    Calls Tryz.prog 13 #[.pointer (some ⟨m, 0, none⟩)] w fun e w' => e = .returned (.int .i64 D.length) ∧ w = w' := by
  obtain ⟨s, g, vs, q, h1, h2, h3⟩ := h
  have c0 := h1.c0
  have hl := h1.lt
  have HS := hid (sseq_any base s vs (lsOf D) D.length w h1.st)
  clear h1 h2 h3
  go_enter Tryz.func13, Tryz.ntmps13
  go_wp2_with fail
  refine HS.out.mono ?_
  rintro e w1 ⟨rfl, rfl⟩
  go_wp2_with fail
  go_ret
  exact ⟨rfl, rfl⟩
end Go.Proofs.YtneilklimpdeoaaGreatDoor
