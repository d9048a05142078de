/-
  CONTRACT of entry.Check. CONDITIONS: none.
  CONTRACTS of entry.Joined, entry.checks, entry.Join, entry.True. CONDITIONS: none.
  CONTRACTS of entry.checks, entry.Join, entry.True. CONDITIONS: none.
  CONTRACTS of entry.Join. CONDITIONS: none.
-/
import Derived.Test.YtneilklimpdeoaaGreatDoorEntry
namespace Go.Proofs.YtneilklimpdeoaaGreatDoor
open Go.RowKit
open Go.ChangeShapes Go.WideShapes Go.ChangeAt

def chk (e : E) : Int :=
  if (!keyB e.key || !seqB e.ver || !seqB e.asof || decide (e.asof < e.ver)) = true then 1
  else if (12 : Int) < (e.text.size : Int) then 4
  else if (e.gone && !e.text.toList.isEmpty) = true then 3
  else 0

set_option maxHeartbeats 1000000 in
theorem check_any (k v a : Int) (g : Bool) (t : ByteArray) (w : World) (ht : t.size ≤ maxLen) :
    Calls Tryz.prog 78 #[.agg #[.int .i64 k, .int .i64 v, .int .i64 a, .bool g, .string t]] w fun e w' =>
      e = .returned (errV (chk ⟨k, v, a, g, t⟩)) ∧ Below w.heap.size w w' := by
  unfold maxLen at ht
  go_enter Tryz.func78, Tryz.ntmps78
  go_wp2_with (first | (go_at_call 29; refine (key_any _ _).mono ?_; rintro e w' ⟨rfl, rfl⟩) | (go_at_call 82; refine (seq_any _ _).mono ?_; rintro e w' ⟨rfl, rfl⟩))
  all_goals
    go_ret
    refine ⟨?_, (Below.refl _ _).alloc (Nat.le_refl _) _⟩
    simp [chk, errV, *]
    all_goals (simp (disch := omega) only [if_neg])
    all_goals first | rfl | decide
end Go.Proofs.YtneilklimpdeoaaGreatDoor
namespace Go.Proofs.YtneilklimpdeoaaGreatDoor
open Go.RowKit
open Go.ChangeShapes Go.WideShapes Go.ChangeAt

def E.val (e : E) : Value := .agg #[.int .i64 e.key, .int .i64 e.ver, .int .i64 e.asof, .bool e.gone, .string e.text]
def E.zero : E := ⟨0, 0, 0, false, ⟨#[]⟩⟩

def joinIn (p q : E) : E × Int :=
  if p.ver = q.ver then
    if (!(p.gone == q.gone) || !(p.text.toList == q.text.toList)) = true then (E.zero, 7) else ({ q with asof := max p.asof q.asof }, 0)
  else if q.ver ≤ p.asof then (E.zero, 7) else (q, 0)
def joined (a b : E) : E × Int := if b.ver < a.ver then joinIn b a else joinIn a b

set_option maxHeartbeats 2000000 in
theorem joined_any (k v a : Int) (g : Bool) (t : ByteArray) (k' v' a' : Int) (g' : Bool) (t' : ByteArray) (w : World) :
    Calls Tryz.prog 59 #[.agg #[.int .i64 k, .int .i64 v, .int .i64 a, .bool g, .string t], .agg #[.int .i64 k', .int .i64 v', .int .i64 a', .bool g', .string t']] w fun e w' =>
      e = .returned (.tuple #[(joined ⟨k, v, a, g, t⟩ ⟨k', v', a', g', t'⟩).1.val, errV (joined ⟨k, v, a, g, t⟩ ⟨k', v', a', g', t'⟩).2]) ∧ Below w.heap.size w w' := by
  generalize hr : joined ⟨k, v, a, g, t⟩ ⟨k', v', a', g', t'⟩ = r
  have Hr := hid hr
  clear hr
  go_enter Tryz.func59, Tryz.ntmps59
  go_wp2
  all_goals
    refine bodyPost_ret (v := .tuple #[r.1.val, errV r.2]) ?_ rfl ⟨rfl, ?_⟩
    · rw [← Hr.out]
      simp [results, Tryz.results59, go_sem, joined, joinIn, E.val, E.zero, errV, *]
      all_goals first | omega | (simp (disch := omega) only [if_pos, if_neg]; done) | (simp (disch := omega) only [if_pos, if_neg]; simp; done)
    · (repeat (first | with_reducible exact Below.refl _ _ | with_reducible assumption | (with_reducible refine Below.drew ?_) | (with_reducible refine Below.manyDrew ?_ _) | ((with_reducible refine Below.alloc ?_ ?_ _); rotate_left; (focus (first | omega | (dsimp only; omega) | (simp; done) | (simp; omega)))) | ((with_reducible refine Below.setCell ?_ ?_ _); rotate_left; (focus (first | omega | (dsimp only; omega) | (simp; done) | (simp; omega)))) | ((with_reducible refine Below.step ?_ (by assumption) ?_); rotate_left; (focus (first | omega | (dsimp only; omega) | (simp; done) | (simp; omega))))))

end Go.Proofs.YtneilklimpdeoaaGreatDoor
namespace Go.Proofs.YtneilklimpdeoaaGreatDoor
open Go.RowKit
open Go.ChangeShapes Go.WideShapes Go.ChangeAt

def chk2 (a b : E) : Int := if chk a = 0 then chk b else chk a

end Go.Proofs.YtneilklimpdeoaaGreatDoor
namespace Go.Proofs.YtneilklimpdeoaaGreatDoor
open Go.RowKit
open Go.ChangeShapes Go.WideShapes Go.ChangeAt

def joinR (a b : E) : E × Int := if chk2 a b = 0 then (if a.key = b.key then joined a b else (E.zero, 3)) else (E.zero, chk2 a b)

end Go.Proofs.YtneilklimpdeoaaGreatDoor
