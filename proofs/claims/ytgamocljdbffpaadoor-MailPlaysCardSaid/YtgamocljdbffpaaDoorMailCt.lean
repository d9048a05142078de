/-
  CONTRACT of mail.Count. CONDITIONS: none.
-/
import Derived.Test.YtgamocljdbffpaaDoorMail
namespace Go.Proofs.YtgamocljdbffpaaDoor
open Go.RowKit
open Go.ChangeShapes Go.WideShapes Go.ChangeAt

theorem mcount_any (base s bm nc : Nat) (v : Value) (L : List Lt) (C : Int → Int → Bool) (w : World) (hO : MailO base w s bm v L nc C) :
    Calls Tryd.prog 16 #[.pointer (some ⟨s, 0, none⟩)] w fun e w' => e = .returned (.int .i64 L.length) ∧ w = w' := by
  have c0 := hO.way
  obtain ⟨A, c, hv, -, -, -⟩ := hO.own.form
  subst hv
  clear hO
  go_enter Tryd.func16, Tryd.ntmps16
  go_wp2
  go_ret
  exact ⟨rfl, rfl⟩
end Go.Proofs.YtgamocljdbffpaaDoor
