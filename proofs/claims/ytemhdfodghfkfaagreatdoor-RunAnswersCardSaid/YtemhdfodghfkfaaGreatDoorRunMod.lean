/-
  PLAIN: a session as a value: the deeds of a store, the caches of three nodes; what a line is answered, and what it leaves. CONDITIONS: none. No program in this text.
-/
import Derived.Test.YtemhdfodghfkfaaGreatDoorLogLaw
import Derived.Test.YtemhdfodghfkfaaGreatDoorMeshSwap
import Derived.Test.YtemhdfodghfkfaaGreatDoorRing6
import Derived.Test.YtemhdfodghfkfaaGreatDoorLines
namespace Go.Proofs.YtemhdfodghfkfaaGreatDoor
open Go Go.RowKit

abbrev Tx := List UInt8
def badT : Tx := [98, 97, 100]
def okT : Tx := [111, 107]
def goneT : Tx := [103, 111, 110, 101]
def cachedT : Tx := [32, 99, 97, 99, 104, 101, 100]
def putW : Tx := [112, 117, 116]
def deleteW : Tx := [100, 101, 108, 101, 116, 101]
def getW : Tx := [103, 101, 116]
def swapW : Tx := [115, 119, 97, 112]
def seqW : Tx := [115, 101, 113]
def cacheW : Tx := [99, 97, 99, 104, 101]
def ownerW : Tx := [111, 119, 110, 101, 114]
def longT : Tx := [116, 111, 111, 32, 108, 111, 110, 103, 10]
/-- the names of the errors -/
def nameE (e : Int) : Tx :=
  if e = 0 then [79, 75] else if e = 1 then [69, 114, 114, 82, 97, 110, 103, 101] else if e = 2 then [69, 114, 114, 83, 121, 110, 116, 97, 120]
  else if e = 3 then [69, 114, 114, 83, 104, 97, 112, 101] else if e = 4 then [69, 114, 114, 70, 117, 108, 108] else if e = 5 then [69, 114, 114, 78, 111, 110, 101]
  else if e = 6 then [69, 114, 114, 83, 116, 97, 116, 101] else if e = 7 then [69, 114, 114, 67, 108, 97, 115, 104] else [69, 114, 114, 79, 108, 100]
/-- how many words follow -/
def wantL (w : Tx) : Option Nat :=
  if w = putW then some 3 else if w = deleteW ∨ w = swapW then some 2 else if w = getW then some 3 else if w = seqW then some 0 else if w = cacheW ∨ w = ownerW then some 1 else none
def numsL : List Tx → Option (List Nat)
  | [] => some []
  | w :: r => match numL w with
    | none => none
    | some n => match numsL r with
      | none => none
      | some l => some (n :: l)
/-- an entry's text -/
def entT (e : E) : Tx := digN e.ver.toNat ++ [45] ++ (digN e.asof.toNat ++ ([32] ++ (if e.gone = true then goneT else e.text.data.toList)))
def keysT : List E → Tx
  | [] => []
  | [e] => digN e.key.toNat
  | e :: r => digN e.key.toNat ++ 32 :: keysT r
def cacheT (l : List E) : Tx := if l = [] then [45] else keysT l
/-- whose a key is, in the ring of a session -/
def ringO (k : Int) : Int := ownerP (ptsC [0, 1, 2] 4) k
structure RSt where
  D : List E
  C : List (List E)
def RSt.new : RSt := ⟨[], [[], [], []]⟩
/-- a number, or an error's name -/
def toldT (r : Int × Int) : Tx := if r.2 = 0 then digN r.1.toNat else nameE r.2
def RSt.deed (S : RSt) (node key : Int) (r : (Int × Int) × List E) : Tx × RSt :=
  (toldT (mdoR S.C.length S.D node r).1, ⟨(mdoR S.C.length S.D node r).2, if (mdoR S.C.length S.D node r).1.2 = 0 then learnC S.C node.toNat key (mdoR S.C.length S.D node r).2 else S.C⟩)
/-- a word with its numbers -/
def RSt.act (S : RSt) (w : Tx) (n : List Nat) (t : Tx) : Tx × RSt :=
  if w = putW then S.deed (n.getD 0 0) (n.getD 1 0) (rput S.D (n.getD 1 0) (mkB t))
  else if w = deleteW then S.deed (n.getD 0 0) (n.getD 1 0) (rdel S.D (n.getD 1 0))
  else if w = getW then
    (if (mgetR S.D S.C (n.getD 0 0) (n.getD 1 0) (n.getD 2 0)).1.2.2 = 0 then entT (mgetR S.D S.C (n.getD 0 0) (n.getD 1 0) (n.getD 2 0)).1.1 ++ (if (mgetR S.D S.C (n.getD 0 0) (n.getD 1 0) (n.getD 2 0)).1.2.1 = true then cachedT else []) else nameE (mgetR S.D S.C (n.getD 0 0) (n.getD 1 0) (n.getD 2 0)).1.2.2,
      ⟨S.D, (mgetR S.D S.C (n.getD 0 0) (n.getD 1 0) (n.getD 2 0)).2⟩)
  else if w = swapW then (if (mswapR S.C (n.getD 0 0) (n.getD 1 0)).1 = 0 then okT else nameE (mswapR S.C (n.getD 0 0) (n.getD 1 0)).1, ⟨S.D, (mswapR S.C (n.getD 0 0) (n.getD 1 0)).2⟩)
  else if w = cacheW then (if inM S.C.length (n.getD 0 0) = true then cacheT (S.C.getD (n.getD 0 0) []) else nameE 1, S)
  else if w = ownerW then (if keyB (n.getD 0 0) = true then digN (ringO (n.getD 0 0)).toNat else nameE 1, S)
  else (digN S.D.length, S)
/-- a line's words, if they are right -/
def wordsL (l : Tx) : Option (Tx × List Nat × Tx) :=
  if wantL ((cutC 32 l).headD []) = some ((cutC 32 l).length - 1) then
    (if (cutC 32 l).headD [] = putW then
      (if (cutC 32 l).getD 3 [] = [] then none else (numsL (((cutC 32 l).take 3).drop 1)).map fun n => ((cutC 32 l).headD [], n, (cutC 32 l).getD 3 []))
    else (numsL ((cutC 32 l).drop 1)).map fun n => ((cutC 32 l).headD [], n, []))
  else none
/-- a line: its answer, and what it leaves -/
def RSt.line (S : RSt) (l : Tx) : Tx × RSt := match wordsL l with
  | none => (badT, S)
  | some (w, n, t) => S.act w n t
def RSt.run : RSt → List Tx → Tx
  | _, [] => []
  | S, l :: r => (S.line l).1 ++ 10 :: RSt.run (S.line l).2 r
def RSt.all : RSt → List Tx → RSt
  | S, [] => S
  | S, l :: r => RSt.all (S.line l).2 r
theorem RSt.run_app : ∀ (a b : List Tx) (S : RSt), S.run (a ++ b) = S.run a ++ (S.all a).run b
  | [], b, S => rfl
  | l :: a, b, S => by
    rw [List.cons_append, RSt.run, RSt.run, RSt.all, RSt.run_app a b, List.append_assoc]
    rfl
theorem RSt.run_snoc (a : List Tx) (l : Tx) (S : RSt) : S.run (a ++ [l]) = S.run a ++ (((S.all a).line l).1 ++ [10]) := by
  rw [RSt.run_app]
  rfl
theorem RSt.all_snoc : ∀ (a : List Tx) (l : Tx) (S : RSt), S.all (a ++ [l]) = ((S.all a).line l).2
  | [], l, S => rfl
  | x :: a, l, S => by
    rw [List.cons_append, RSt.all, RSt.all_snoc a l]
    rfl
/-- a line without its newline -/
def cutN (l : Tx) : Tx := if l.getLast? = some 10 then l.dropLast else l
/-- the lines of a text -/
def linesT (t : Tx) : List Tx := (linesL t).map cutN
/-- what a session is answered -/
def runT (t : Tx) : Tx := if 3000 < t.length then longT else RSt.new.run (linesT t)
theorem cutN_nl (p : Tx) : cutN (p ++ [10]) = p := by unfold cutN; rw [List.getLast?_concat, if_pos rfl, List.dropLast_concat]
theorem cutN_no {p : Tx} (h : (10 : UInt8) ∉ p) : cutN p = p := by
  unfold cutN
  rw [if_neg]
  intro e
  exact h (List.mem_of_getLast? e)
/-- the lines are what lies between newlines; nothing behind the last one is no line -/
theorem linesT_cut : ∀ (k : Nat) (t : Tx), t.length ≤ k → linesT t = if (cutC 10 t).getLast? = some [] then (cutC 10 t).dropLast else cutC 10 t
  | k, t, hk => by
    rcases find_byte 10 t with h | ⟨p, m, rfl, hp⟩
    · rw [cutC_none 10 h]
      by_cases h0 : t = []
      · subst h0; rfl
      · have h1 : linesL t = [t] := by
          have := linesGo_none t [] h (by simpa using h0)
          rw [List.nil_append] at this
          exact this
        rw [linesT, h1, if_neg (by simpa using h0), List.map_cons, List.map_nil, cutN_no h]
    · have h1 : linesL (p ++ 10 :: m) = (p ++ [10]) :: linesL m := by
        have := linesGo_one p [] m hp
        rw [List.nil_append] at this
        exact this
      have hm : m.length < k := by rw [List.length_append, List.length_cons] at hk; omega
      match k, hm with
      | k + 1, hm =>
        have ih := linesT_cut k m (by omega)
        rw [linesT, h1, List.map_cons, cutN_nl, cutC_one 10 hp]
        show p :: linesT m = _
        have hne := cutC_ne 10 m
        rw [ih]
        generalize cutC 10 m = c at *
        cases c with
        | nil => exact absurd rfl hne
        | cons a r =>
          rw [List.getLast?_cons_cons, List.dropLast_cons_cons]
          split <;> rfl
theorem linesGo_app : ∀ (p cur q : List UInt8), (p = [] ∧ cur = [] ∨ p.getLast? = some 10) → linesGo cur (p ++ q) = linesGo cur p ++ linesGo [] q
  | [], cur, q, h => by
    rcases h with ⟨_, rfl⟩ | h
    · rfl
    · cases h
  | b :: p, cur, q, h => by
    have hl : (b :: p).getLast? = some 10 := h.resolve_left (fun h => by cases h.1)
    rw [List.cons_append, linesGo, linesGo]
    by_cases hp : p = []
    · subst hp
      have hb : b = 10 := by simpa using hl
      subst hb
      rw [if_pos rfl, if_pos rfl, List.nil_append]
      rfl
    · have hl2 : p.getLast? = some 10 := by
        rw [List.getLast?_cons_of_ne_nil hp] at hl
        exact hl
      split
      · rw [linesGo_app p [] q (.inr hl2), List.cons_append]
      · exact linesGo_app p _ q (.inr hl2)
theorem linesT_app {p q : Tx} (h : p = [] ∨ p.getLast? = some 10) : linesT (p ++ q) = linesT p ++ linesT q := by
  unfold linesT linesL
  rw [linesGo_app p [] q (h.imp (fun h => ⟨h, rfl⟩) (fun h => h)), List.map_append]
/-- the answers to a beginning are a beginning of the answers -/
theorem runT_begins {p q : Tx} (h : p = [] ∨ p.getLast? = some 10) (hl : (p ++ q).length ≤ 3000) : ∃ r, runT (p ++ q) = runT p ++ r := by
  have h1 : p.length ≤ 3000 := by rw [List.length_append] at hl; omega
  refine ⟨(RSt.new.all (linesT p)).run (linesT q), ?_⟩
  rw [runT, runT, if_neg (by omega), if_neg (by omega), linesT_app h, RSt.run_app]
end Go.Proofs.YtemhdfodghfkfaaGreatDoor
