/-
  run.wants: the map of the words, and what a look-up in it tells. CONDITIONS: none.
  run.desk's do at any word with its numbers: what a session as a value tells and leaves. CONDITIONS: the library's variables read as they are laid (Tr).
  PLAIN: a line's words as run.line reads them. CONDITIONS: none.
  run.desk's line: what a line is told, and what it leaves. CONDITIONS: the library's variables read as they are laid (Tr).
  run.desk's answer: a line is answered as the session says. CONDITIONS: the library's variables read as they are laid (Tr).
-/
import Derived.Test.YtemhdfodghfkfaaGreatDoorRunDo
import Derived.Maps.OwnSet
namespace Go.Proofs.YtemhdfodghfkfaaGreatDoor
open Go.RowKit
open Go.ChangeShapes Go.WideShapes Go.ChangeAt Go.WideMaps Go.Maps

/-- how many numbers follow a word -/
def manyL (w : Tx) : Option Nat :=
  if w = putW then some 2 else if w = deleteW ∨ w = swapW then some 2 else if w = getW then some 3 else if w = seqW then some 0 else if w = cacheW ∨ w = ownerW then some 1 else none
theorem lawS : Keyed Tryz.prog 9 := string_keyed Tryz.underlying9
theorem zeroI (w : World) : (zeroValue 3).run Tryz.prog w = .ok (.int .i64 0) w := by kernel_rfl
def wantsD : DataW Unit := .map [(.string cacheW, .lit (.int .i64 1)), (.string deleteW, .lit (.int .i64 2)), (.string getW, .lit (.int .i64 3)), (.string ownerW, .lit (.int .i64 1)), (.string putW, .lit (.int .i64 2)), (.string seqW, .lit (.int .i64 0)), (.string swapW, .lit (.int .i64 2))]
theorem wantsD_eq : (((((((DataW.map [] : DataW Unit).put (.string putW) (.lit (.int .i64 2))).put (.string deleteW) (.lit (.int .i64 2))).put (.string getW) (.lit (.int .i64 3))).put (.string swapW) (.lit (.int .i64 2))).put (.string seqW) (.lit (.int .i64 0))).put (.string cacheW) (.lit (.int .i64 1))).put (.string ownerW) (.lit (.int .i64 1)) = wantsD := by kernel_rfl
theorem wantsD_at (s : Tx) : Maps.has wantsD (.string s) = (manyL s).isSome ∧ wantsD.atKey (.string s) (.lit (.int .i64 0)) = .lit (.int .i64 (((manyL s).getD 0 : Nat) : Int)) := by
  by_cases h1 : s = putW
  · subst h1; exact ⟨by kernel_rfl, by kernel_rfl⟩
  by_cases h2 : s = deleteW
  · subst h2; exact ⟨by kernel_rfl, by kernel_rfl⟩
  by_cases h3 : s = swapW
  · subst h3; exact ⟨by kernel_rfl, by kernel_rfl⟩
  by_cases h4 : s = getW
  · subst h4; exact ⟨by kernel_rfl, by kernel_rfl⟩
  by_cases h5 : s = seqW
  · subst h5; exact ⟨by kernel_rfl, by kernel_rfl⟩
  by_cases h6 : s = cacheW
  · subst h6; exact ⟨by kernel_rfl, by kernel_rfl⟩
  by_cases h7 : s = ownerW
  · subst h7; exact ⟨by kernel_rfl, by kernel_rfl⟩
  have hm : manyL s = none := by
    unfold manyL
    rw [if_neg h1, if_neg (fun h => h.elim h2 h3), if_neg h4, if_neg h5, if_neg (fun h => h.elim h6 h7)]
  have hk : ∀ (x : Tx), s ≠ x → (Lit.string x).sameKey (.string s) = false := fun x hx => by
    show (x == s) = false
    simpa using fun e => hx e.symm
  rw [hm]
  unfold wantsD
  constructor
  · show List.any _ _ = false
    simp only [List.any_cons, List.any_nil, hk _ h1, hk _ h2, hk _ h3, hk _ h4, hk _ h5, hk _ h6, hk _ h7, Bool.or_false]
  · simp only [DataW.atKey, List.find?_cons, List.find?_nil, hk _ h1, hk _ h2, hk _ h3, hk _ h4, hk _ h5, hk _ h6, hk _ h7]
    rfl
theorem manyI : ∀ n : Nat, n ≤ 3 → (Lit.int .i64 (n : Int)).wf = true := by decide
theorem elemI (n : Nat) (h : n ≤ 3) : plainElem (H := Unit) Tryz.prog 3 (.int .i64 (n : Int)) = some (.lit (.int .i64 (n : Int)), []) := plainElem_int Tryz.underlying3 (manyI n h)
/-- what a look-up in run.wants' map tells -/
def WantsR (w : World) (e : Ending) (w' : World) : Prop :=
  ∃ b, e = .returned (.map (some b)) ∧ Below w.heap.size w w' ∧ ∀ s : ByteArray, s.size ≤ maxLen → (Instr.lookup 105 (.map (some b)) (.string s) true).run Tryz.prog w' = .ok (.tuple #[.int .i64 (((manyL s.data.toList).getD 0 : Nat) : Int), .bool (manyL s.data.toList).isSome]) w'
set_option maxHeartbeats 4000000 in
set_option maxRecDepth 100000 in
theorem wants_any (w : World) : Calls Tryz.prog 49 #[] w (WantsR w) := by
  have hmm := @run_makeMap Tryz.prog
  have o0 : (w.alloc (.map #[] 0)).ownsMap Tryz.prog 9 (plainElem (H := Unit) Tryz.prog 3) w.heap.size 0 (.map []) := World.ownsMap_made _ _ _ _
  have hb0 : Below w.heap.size w (w.alloc (.map #[] 0)) := (Below.refl _ _).alloc (Nat.le_refl _) _
  have step : ∀ {W : World} {n : Nat} {D : DataW Unit} (s : Tx) (k : Nat), s.length ≤ 10 → k ≤ 3 → n ≤ 10 → W.ownsMap Tryz.prog 9 (plainElem (H := Unit) Tryz.prog 3) w.heap.size n D → Below w.heap.size w W →
      ∃ W', (Instr.mapUpdate 105 (.map (some w.heap.size)) (.string (mkB s)) (.int .i64 (k : Int))).run Tryz.prog W = .ok () W' ∧ W'.ownsMap Tryz.prog 9 (plainElem (H := Unit) Tryz.prog 3) w.heap.size (n + 1) (D.put (.string s) (.lit (.int .i64 (k : Int)))) ∧ Below w.heap.size w W' := fun {W n D} s k hs hk hn ho hb => by
    obtain ⟨W', h1, h2, h3⟩ := ho.update lawS Tryz.underlying105 (by unfold maxLen; omega) (key := .string (mkB s)) (kl := .string s) (keyOf_string_mk Tryz.underlying9 (by rw [mkB_size]; unfold maxLen; omega)) (elemI k hk)
    exact ⟨W', h1, h2, hb.grown h3 hb.size (fun j hj => by cases hj; exact Nat.le_refl _)⟩
  obtain ⟨w1, r1, o1, b1⟩ := step putW 2 (by decide) (by decide) (by decide) o0 hb0
  obtain ⟨w2, r2, o2, b2⟩ := step deleteW 2 (by decide) (by decide) (by decide) o1 b1
  obtain ⟨w3, r3, o3, b3⟩ := step getW 3 (by decide) (by decide) (by decide) o2 b2
  obtain ⟨w4, r4, o4, b4⟩ := step swapW 2 (by decide) (by decide) (by decide) o3 b3
  obtain ⟨w5, r5, o5, b5⟩ := step seqW 0 (by decide) (by decide) (by decide) o4 b4
  obtain ⟨w6, r6, o6, b6⟩ := step cacheW 1 (by decide) (by decide) (by decide) o5 b5
  obtain ⟨w7, r7, o7, b7⟩ := step ownerW 1 (by decide) (by decide) (by decide) o6 b6
  have o8 : w7.ownsMap Tryz.prog 9 (plainElem (H := Unit) Tryz.prog 3) w.heap.size 7 wantsD := wantsD_eq ▸ o7
  have Hall := hid (fun (s : ByteArray) (hs : s.size ≤ maxLen) => show (Instr.lookup 105 (.map (some w.heap.size)) (.string s) true).run Tryz.prog w7 = .ok (.tuple #[.int .i64 (((manyL s.data.toList).getD 0 : Nat) : Int), .bool (manyL s.data.toList).isSome]) w7 from by
    obtain ⟨v, ps, h1, h2⟩ := o8.look_ok lawS Tryz.underlying105 (zeroI _) (elemI 0 (by decide)) (key := .string s) (kl := .string s.data.toList) (keyOf_string_mk Tryz.underlying9 hs)
    obtain ⟨e1, e2⟩ := wantsD_at s.data.toList
    obtain ⟨c, rfl, hc, -⟩ := plainElem_int_inv Tryz.underlying3 h2
    have hc := congrArg Prod.fst hc
    simp only at hc
    rw [show ((0 : Nat) : Int) = 0 from rfl, e2] at hc
    injection hc with hc
    injection hc with _ hc
    rw [h1, e1, ← hc])
  have B7 := hid b7
  clear step o0 o1 o2 o3 o4 o5 o6 o7 o8 b1 b2 b3 b4 b5 b6 b7 hb0
  change (Instr.mapUpdate _ _ (.string ⟨#[112, 117, 116]⟩) (.int .i64 2)).run _ _ = _ at r1
  change (Instr.mapUpdate _ _ (.string ⟨#[100, 101, 108, 101, 116, 101]⟩) (.int .i64 2)).run _ _ = _ at r2
  change (Instr.mapUpdate _ _ (.string ⟨#[103, 101, 116]⟩) (.int .i64 3)).run _ _ = _ at r3
  change (Instr.mapUpdate _ _ (.string ⟨#[115, 119, 97, 112]⟩) (.int .i64 2)).run _ _ = _ at r4
  change (Instr.mapUpdate _ _ (.string ⟨#[115, 101, 113]⟩) (.int .i64 0)).run _ _ = _ at r5
  change (Instr.mapUpdate _ _ (.string ⟨#[99, 97, 99, 104, 101]⟩) (.int .i64 1)).run _ _ = _ at r6
  change (Instr.mapUpdate _ _ (.string ⟨#[111, 119, 110, 101, 114]⟩) (.int .i64 1)).run _ _ = _ at r7
  go_enter Tryz.func49, Tryz.ntmps49
  go_wp2_with fail
  go_ret
  exact ⟨_, rfl, B7.out, Hall.out⟩
end Go.Proofs.YtemhdfodghfkfaaGreatDoor
namespace Go.Proofs.YtemhdfodghfkfaaGreatDoor
open Go.RowKit
open Go.ChangeShapes Go.WideShapes Go.ChangeAt
variable {Z : Nat → Prop}

theorem tyInt : ¬ MTy 3 := by unfold MTy; decide
theorem nums_at {base : Nat} {w : World} {r : SlV Int} (hO : Ow cellI 1 base 3 w (.slice r.A r.xs.length r.c) r.xs) (h0 : 0 < r.xs.length) :
    ∃ g off, r.A = some ⟨g, off, none⟩ ∧ TyA Z w g ∧ ∀ i (hi : i < r.xs.length), w.cell? ⟨g, off + i, none⟩ = some (.int .i64 r.xs[i]) := by
  obtain ⟨g, off, cap, he, h1, h2, hb, hlt, hfo, hc, -⟩ := hO.get h0
  injection he with e1 e2 e3
  obtain ⟨cur, hB⟩ := hO.typ hfo
  refine ⟨g, off, e1, tyA_of hB tyInt, fun i hi => ?_⟩
  have := hc i hi 0 (by decide)
  rw [Nat.mul_one, Nat.add_zero] at this
  exact this
theorem many_one {wd : Tx} {k : Nat} (h : manyL wd = some k) : (wd = putW ∧ k = 2) ∨ (wd = deleteW ∧ k = 2) ∨ (wd = swapW ∧ k = 2) ∨ (wd = getW ∧ k = 3) ∨ (wd = seqW ∧ k = 0) ∨ (wd = cacheW ∧ k = 1) ∨ (wd = ownerW ∧ k = 1) := by
  unfold manyL at h
  split at h
  · rename_i h1; injection h with h; exact .inl ⟨h1, h.symm⟩
  split at h
  · rename_i h1; injection h with h
    rcases h1 with h1 | h1
    · exact .inr (.inl ⟨h1, h.symm⟩)
    · exact .inr (.inr (.inl ⟨h1, h.symm⟩))
  split at h
  · rename_i h1; injection h with h; exact .inr (.inr (.inr (.inl ⟨h1, h.symm⟩)))
  split at h
  · rename_i h1; injection h with h; exact .inr (.inr (.inr (.inr (.inl ⟨h1, h.symm⟩))))
  split at h
  · rename_i h1; injection h with h
    rcases h1 with h1 | h1
    · exact .inr (.inr (.inr (.inr (.inr (.inl ⟨h1, h.symm⟩)))))
    · exact .inr (.inr (.inr (.inr (.inr (.inr ⟨h1, h.symm⟩)))))
  · cases h
theorem len1 {n : List Nat} (h : n.length = 1) : ∃ a, n = [a] := by
  match n, h with
  | [a], _ => exact ⟨a, rfl⟩
theorem len2 {n : List Nat} (h : n.length = 2) : ∃ a b, n = [a, b] := by
  match n, h with
  | [a, b], _ => exact ⟨a, b, rfl⟩
theorem len3 {n : List Nat} (h : n.length = 3) : ∃ a b c, n = [a, b, c] := by
  match n, h with
  | [a, b, c], _ => exact ⟨a, b, c, rfl⟩
theorem do_any (base base2 d : Nat) (wd : Tx) (n : List Nat) (r : SlV Int) (t : Tx) (S : RSt) (w : World) (hm : manyL wd = some n.length) (hx : r.xs = n.map (fun (n : Nat) => (n : Int))) (hO : Ow cellI 1 base2 3 w (.slice r.A r.xs.length r.c) r.xs) (ht : t.length ≤ maxLen) (h : DeskW Z base w d S) (hT : TrB base w) :
    Calls Tryz.prog 51 #[.pointer (some ⟨d, 0, none⟩), .string (mkB wd), .slice r.A r.xs.length r.c, .string (mkB t)] w (DoR Z base d w (S.act wd n t).1 (S.act wd n t).2) := by
  obtain ⟨A, c, xs⟩ := r
  obtain rfl : xs = n.map (fun (n : Nat) => (n : Int)) := hx
  rcases many_one hm with ⟨rfl, hk⟩ | ⟨rfl, hk⟩ | ⟨rfl, hk⟩ | ⟨rfl, hk⟩ | ⟨rfl, hk⟩ | ⟨rfl, hk⟩ | ⟨rfl, hk⟩
  · obtain ⟨x, y, rfl⟩ := len2 hk
    obtain ⟨g, off, hA, hg, hc⟩ := nums_at (Z := Z) hO (Nat.succ_pos _)
    simp only at hA
    subst hA
    exact do_put base d g off c x y (mkB t) (by rw [mkB_size]; exact ht) S w h hT hg (hc 0 (Nat.succ_pos _)) (hc 1 (Nat.lt_succ_self _))
  · obtain ⟨x, y, rfl⟩ := len2 hk
    obtain ⟨g, off, hA, hg, hc⟩ := nums_at (Z := Z) hO (Nat.succ_pos _)
    simp only at hA
    subst hA
    exact do_del base d g off c x y (mkB t) S w h hT hg (hc 0 (Nat.succ_pos _)) (hc 1 (Nat.lt_succ_self _))
  · obtain ⟨x, y, rfl⟩ := len2 hk
    obtain ⟨g, off, hA, hg, hc⟩ := nums_at (Z := Z) hO (Nat.succ_pos _)
    simp only at hA
    subst hA
    exact do_swap base d g off c x y (mkB t) S w h hT hg (hc 0 (Nat.succ_pos _)) (hc 1 (Nat.lt_succ_self _))
  · obtain ⟨x, y, z, rfl⟩ := len3 hk
    obtain ⟨g, off, hA, hg, hc⟩ := nums_at (Z := Z) hO (Nat.succ_pos _)
    simp only at hA
    subst hA
    exact do_get base d g off c x y z (mkB t) S w h hT hg (hc 0 (Nat.succ_pos _)) (hc 1 (Nat.succ_lt_succ (Nat.succ_pos _))) (hc 2 (Nat.lt_succ_self _))
  · exact do_seq base d _ (mkB t) S w h hT
  · obtain ⟨x, rfl⟩ := len1 hk
    obtain ⟨g, off, hA, hg, hc⟩ := nums_at (Z := Z) hO (Nat.succ_pos _)
    simp only at hA
    subst hA
    exact do_cache base d g off c x (mkB t) S w h hT.now (hc 0 (Nat.succ_pos _))
  · obtain ⟨x, rfl⟩ := len1 hk
    obtain ⟨g, off, hA, hg, hc⟩ := nums_at (Z := Z) hO (Nat.succ_pos _)
    simp only at hA
    subst hA
    exact do_owner base d g off c x (mkB t) S w h hT hg (hc 0 (Nat.succ_pos _))
end Go.Proofs.YtemhdfodghfkfaaGreatDoor
namespace Go.Proofs.YtemhdfodghfkfaaGreatDoor
open Go Go.RowKit

/-- words that are to be numbers, so many -/
def lineN (hd : Tx) (k : Nat) (ws : List Tx) (t : Tx) : Option (Tx × List Nat × Tx) := match numsL ws with
  | none => none
  | some n => if n.length = k then some (hd, n, t) else none
/-- a line's words, the way the code reads them -/
def lineP (hd : Tx) (tl : List Tx) : Option (Tx × List Nat × Tx) := match manyL hd with
  | none => none
  | some k => if hd = putW ∧ tl ≠ [] then (if tl.getLastD [] = [] then none else lineN hd k tl.dropLast (tl.getLastD [])) else lineN hd k tl []
theorem lineN_len {hd : Tx} {k : Nat} {ws : List Tx} {t : Tx} (h : ws.length ≠ k) : lineN hd k ws t = none := by
  unfold lineN
  cases hn : numsL ws with
  | none => rfl
  | some n =>
    simp only
    rw [if_neg (by rw [numsL_len _ hn]; exact h)]
theorem lineN_eq {hd : Tx} {k : Nat} {ws : List Tx} {t : Tx} (h : ws.length = k) : lineN hd k ws t = (numsL ws).map fun n => (hd, n, t) := by
  unfold lineN
  cases hn : numsL ws with
  | none => rfl
  | some n =>
    simp only
    rw [if_pos (by rw [numsL_len _ hn]; exact h)]
    rfl
theorem want_many {w : Tx} (h : w ≠ putW) : wantL w = manyL w := by
  unfold wantL manyL
  rw [if_neg h, if_neg h]
theorem wordsL_lineP {l : Tx} {hd : Tx} {tl : List Tx} (h : cutC 32 l = hd :: tl) : wordsL l = lineP hd tl := by
  unfold wordsL
  rw [h]
  show (if wantL hd = some tl.length then (if hd = putW then (if (hd :: tl).getD 3 [] = [] then none else (numsL (((hd :: tl).take 3).drop 1)).map fun n => (hd, n, (hd :: tl).getD 3 [])) else (numsL tl).map fun n => (hd, n, [])) else none) = _
  by_cases hp : hd = putW
  · subst hp
    unfold lineP
    rw [show wantL putW = some 3 from rfl, show manyL putW = some 2 from rfl]
    match tl with
    | [] => rfl
    | [a] =>
      rw [if_neg (by intro e; cases e)]
      show none = if putW = putW ∧ [a] ≠ [] then _ else _
      rw [if_pos ⟨rfl, fun e => by cases e⟩]
      split
      · rfl
      · exact (lineN_len (by show 0 ≠ 2; omega)).symm
    | [a, b] =>
      rw [if_neg (by intro e; cases e)]
      show none = if putW = putW ∧ [a, b] ≠ [] then _ else _
      rw [if_pos ⟨rfl, fun e => by cases e⟩]
      split
      · rfl
      · exact (lineN_len (by show 1 ≠ 2; omega)).symm
    | [a, b, c] =>
      show (if c = [] then none else (numsL [a, b]).map fun n => (putW, n, c)) = (if c = [] then none else lineN putW 2 [a, b] c)
      split
      · rfl
      · exact (lineN_eq rfl).symm
    | a :: b :: c :: e :: r =>
      rw [if_neg (by
        intro h
        injection h with h
        simp only [List.length_cons] at h
        omega)]
      show none = if putW = putW ∧ a :: b :: c :: e :: r ≠ [] then _ else _
      rw [if_pos ⟨rfl, fun e => by cases e⟩]
      split
      · rfl
      · refine (lineN_len ?_).symm
        rw [List.length_dropLast]
        simp only [List.length_cons]
        omega
  · unfold lineP
    rw [if_neg hp, want_many hp]
    cases hm : manyL hd with
    | none => rw [if_neg (fun h => by cases h)]
    | some k =>
      have e : (match (some k : Option Nat) with | none => none | some k => if hd = putW ∧ tl ≠ [] then (if tl.getLastD [] = [] then none else lineN hd k tl.dropLast (tl.getLastD [])) else lineN hd k tl []) = lineN hd k tl [] := if_neg (fun h => hp h.1)
      refine Eq.trans ?_ e.symm
      by_cases hk : tl.length = k
      · rw [if_pos (show some k = some tl.length by rw [hk]), lineN_eq hk]
      · rw [if_neg (show ¬ some k = some tl.length from fun h => by injection h with h; exact hk h.symm), lineN_len hk]
theorem line_none {S : RSt} {l hd : Tx} {tl : List Tx} (h : cutC 32 l = hd :: tl) (hn : lineP hd tl = none) : S.line l = (badT, S) := by
  rw [RSt.line, wordsL_lineP h, hn]
theorem line_some {S : RSt} {l hd : Tx} {tl : List Tx} {x : Tx × List Nat × Tx} (h : cutC 32 l = hd :: tl) (hn : lineP hd tl = some x) : S.line l = S.act x.1 x.2.1 x.2.2 := by
  rw [RSt.line, wordsL_lineP h, hn]
end Go.Proofs.YtemhdfodghfkfaaGreatDoor
namespace Go.Proofs.YtemhdfodghfkfaaGreatDoor
open Go.RowKit
open Go.ChangeShapes Go.WideShapes Go.ChangeAt
variable {Z : Nat → Prop}

def unreadV : Value := .iface 77 (.agg #[.iface 78 (.int .i64 2)])
/-- what desk.line tells: a text and an error -/
def LineR (Z : Nat → Prop) (base d : Nat) (w : World) (a : Tx) (S' : RSt) (e : Ending) (w' : World) : Prop :=
  (∃ (t : Tx) (ev : Value), e = .returned (.tuple #[.string (mkB t), ev]) ∧ ((ev = unreadV ∧ a = badT) ∨ ∃ n : Int, ev = errV n ∧ 0 ≤ n ∧ n ≤ 8 ∧ a = (if n = 0 then t else nameE n))) ∧ DeskW Z base w' d S' ∧ Fr (TouchD Z base w) w w'
theorem touch_back {base : Nat} {w W X : World} (hb : Below w.heap.size w W) (hF : Fr (TouchD Z base W) W X) : Fr (TouchD Z base w) w X :=
  (Fr.ofB hb).trans hF (fun i hi => by
    by_cases hw : w.heap.size ≤ i
    · exact .inr hw
    · refine .inl ⟨hi.1, fun h => hi.2 ?_⟩
      obtain ⟨h1, hn | hz⟩ := h
      · exact ⟨Nat.lt_of_lt_of_le h1 hb.size, .inl (fun ⟨T, cur, hB, hy⟩ => hn ⟨T, cur, (hb.block i h1).symm.trans hB, hy⟩)⟩
      · exact ⟨Nat.lt_of_lt_of_le h1 hb.size, .inr hz⟩)
theorem LineR.bad {base d : Nat} {w w' : World} {S : RSt} (h : DeskW Z base w d S) (hb : Below w.heap.size w w') : LineR Z base d w badT S (.returned (.tuple #[.string ⟨#[]⟩, unreadV])) w' :=
  ⟨⟨[], unreadV, rfl, .inl ⟨rfl, rfl⟩⟩, h.belowS hb, Fr.ofB hb⟩
theorem LineR.does {base d : Nat} {w W X : World} {a : Tx} {S' : RSt} {e : Ending} (hb : Below w.heap.size w W) (h : DoR Z base d W a S' e X) : LineR Z base d w a S' e X := by
  obtain ⟨⟨t, n, rfl, h0, h8, ha⟩, hD, hF⟩ := h
  exact ⟨⟨t, _, rfl, .inr ⟨n, rfl, h0, h8, ha⟩⟩, hD, touch_back hb hF⟩
theorem StrsAt.staysB {w w' : World} {s : SlV ByteArray} (h : StrsAt w s) (hb : Below w.heap.size w w') : StrsAt w' s where
  row h0 := by
    obtain ⟨b, off, hA, hlt, hc⟩ := h.row h0
    exact ⟨b, off, hA, Nat.lt_of_lt_of_le hlt hb.size, fun i hi => (hb.cell (p := ⟨b, _, none⟩) hlt).trans (hc i hi)⟩
  each := h.each
  len := h.len
theorem StrsAt.zero (w : World) (A : Option Addr) (c : Nat) : StrsAt w ⟨A, c, []⟩ := ⟨(fun h => by cases h), (fun _ h => by cases h), Nat.zero_le _⟩
theorem StrsAt.init {w : World} {A : Option Addr} {c : Nat} {xs ys : List ByteArray} (h : StrsAt w ⟨A, c, xs ++ ys⟩) : StrsAt w ⟨A, c, xs⟩ where
  row h0 := by
    obtain ⟨b, off, hA, hlt, hc⟩ := h.row (by
      rw [List.length_append]
      exact Nat.lt_of_lt_of_le h0 (Nat.le_add_right _ _))
    refine ⟨b, off, hA, hlt, fun i hi => ?_⟩
    have hi' : i < xs.length := hi
    have := hc i (by
      rw [List.length_append]
      exact Nat.lt_of_lt_of_le hi' (Nat.le_add_right _ _))
    rw [this]
    simp [List.getElem_append_left hi']
  each x hx := h.each x (List.mem_append_left _ hx)
  len := by
    have := h.len
    simp only [List.length_append] at this
    exact Nat.le_trans (Nat.le_add_right _ _) this
theorem StrsAt.tail {w : World} {b off c c' : Nat} {x : ByteArray} {xs : List ByteArray} (h : StrsAt w ⟨some ⟨b, off, none⟩, c, x :: xs⟩) : StrsAt w ⟨some ⟨b, off + 1, none⟩, c', xs⟩ where
  row _ := by
    obtain ⟨b', off', hA, hb, hc⟩ := h.row (Nat.succ_pos _)
    simp only at hA
    cases hA
    refine ⟨b, off + 1, rfl, hb, fun i hi => ?_⟩
    have := hc (i + 1) (Nat.succ_lt_succ hi)
    rw [show off + 1 + i = off + (i + 1) by omega]
    exact this
  each y hy := h.each y (List.mem_cons_of_mem _ hy)
  len := Nat.le_trans (Nat.le_succ _) h.len
theorem wants_at (hd : Tx) (hl : hd.length ≤ 3000) (w : World) : Calls Tryz.prog 49 #[] w fun e w' => ∃ b, e = .returned (.map (some b)) ∧ Below w.heap.size w w' ∧ (Instr.lookup 105 (.map (some b)) (.string (mkB hd)) true).run Tryz.prog w' = .ok (.tuple #[.int .i64 (((manyL hd).getD 0 : Nat) : Int), .bool (manyL hd).isSome]) w' :=
  (wants_any w).mono (fun e w' h => by
    obtain ⟨b, rfl, hb, hL⟩ := h
    have := hL (mkB hd) (by rw [mkB_size]; unfold maxLen; omega)
    exact ⟨b, rfl, hb, this⟩)
set_option maxHeartbeats 8000000 in
set_option maxRecDepth 100000 in
theorem line_any (base d : Nat) (l : Tx) (hl : l.length ≤ 3000) (S : RSt) (w : World) (h : DeskW Z base w d S) (hT : TrB base w) :
    Calls Tryz.prog 28 #[.pointer (some ⟨d, 0, none⟩), .string (mkB l)] w (LineR Z base d w (S.line l).1 (S.line l).2) := by
  obtain ⟨hd, tl, hcs⟩ : ∃ hd tl, cutC 32 l = hd :: tl := by
    cases hc : cutC 32 l with
    | nil => exact absurd hc (cutC_ne 32 l)
    | cons a r => exact ⟨a, r, rfl⟩
  have hB : base ≤ w.heap.size := by obtain ⟨m, v, h1, h2, h3, h4, h5⟩ := h; exact h4
  have HD := hid h
  have HT := hid (fun W (hW : Below w.heap.size w W) => hT.step (hW.mono hB))
  have hlen := cutC_len 32 l
  have hmany := cutC_many 32 l
  rw [hcs] at hlen hmany
  have hhd := hlen hd (List.mem_cons_self ..)
  have HS := hid ((split_any (mkB l) (by rw [mkB_size]; exact hl) w hT.now).mono (fun e w' h => (show ∃ r : SlV ByteArray, e = .returned (.slice r.A r.xs.length r.c) ∧ r.xs = mkB hd :: tl.map mkB ∧ StrsAt w' r ∧ r.xs.length ≤ r.c ∧ Below w.heap.size w w' from by
    obtain ⟨r, h1, h2, h3⟩ := h
    exact ⟨r, h1, by rw [h2]; show (cutC 32 l).map mkB = _; rw [hcs]; rfl, h3⟩)))
  have Hcs := hid hcs
  have Hlen := hid hlen
  simp only [List.length_cons] at hmany
  clear h hT hlen hcs
  go_enter Tryz.func28, Tryz.ntmps28
  go_wp2_with fail
  refine HS.out.mono ?_
  rintro e w1 ⟨⟨A, c, xs⟩, rfl, hrx, hrA, hrc, hb1⟩
  obtain rfl : xs = mkB hd :: tl.map mkB := hrx
  obtain ⟨b, off, hA, hb, hc⟩ := hrA.row (Nat.succ_pos _)
  simp only at hA
  subst hA
  have c0 : w1.cell? ⟨b, off, none⟩ = some (.string (mkB hd)) := hc 0 (Nat.succ_pos _)
  have HA := hid hrA
  have Hb1 := hid hb1
  have hz1 := hb1.size
  have HW := hid (fun W (_ : Below w1.heap.size w1 W) => wants_at hd (by omega) W)
  obtain ⟨k0, hk0⟩ : ∃ k0, k0 = (((manyL hd).getD 0 : Nat) : Int) := ⟨_, rfl⟩
  obtain ⟨g0, hg0⟩ : ∃ g0, g0 = (manyL hd).isSome := ⟨_, rfl⟩
  rw [← hk0, ← hg0] at HW
  have Hk := hid hk0
  have Hg := hid hg0
  simp only [List.length_cons, List.length_map] at hrc ⊢
  clear hrA hc hb1 hk0 hg0
  go_upto_region 2 with fail
  go_cut [7, 8] (fun x7 x8 wx => x7 = .int .i64 k0 ∧ x8 = .bool g0 ∧ Below w1.heap.size w1 wx)
  case first =>
    go_region_held3 (fun W => Below w1.heap.size w1 W ∧ W.cell? ⟨b, off, none⟩ = some (.string (mkB hd))) (first | with_reducible exact ⟨(Below.refl _ _).drew, c0⟩ | (go_split_ands; with_reducible exact ⟨by assumption, cell_keep c0 (by assumption)⟩) | (go_split_ands; exact ⟨by (repeat (first | with_reducible exact Below.refl _ _ | with_reducible assumption | (with_reducible refine Below.drew ?_) | (with_reducible refine Below.manyDrew ?_ _) | ((with_reducible refine Below.alloc ?_ ?_ _); rotate_left; (focus (first | omega | (dsimp only; omega) | (simp; done) | (simp; omega)))) | ((with_reducible refine Below.setCell ?_ ?_ _); rotate_left; (focus (first | omega | (dsimp only; omega) | (simp; done) | (simp; omega)))) | ((with_reducible refine Below.step ?_ (by assumption) ?_); rotate_left; (focus (first | omega | (dsimp only; omega) | (simp; done) | (simp; omega)))))), cell_keep c0 (by (repeat (first | with_reducible exact Below.refl _ _ | with_reducible assumption | (with_reducible refine Below.drew ?_) | (with_reducible refine Below.manyDrew ?_ _) | ((with_reducible refine Below.alloc ?_ ?_ _); rotate_left; (focus (first | omega | (dsimp only; omega) | (simp; done) | (simp; omega)))) | ((with_reducible refine Below.setCell ?_ ?_ _); rotate_left; (focus (first | omega | (dsimp only; omega) | (simp; done) | (simp; omega)))) | ((with_reducible refine Below.step ?_ (by assumption) ?_); rotate_left; (focus (first | omega | (dsimp only; omega) | (simp; done) | (simp; omega)))))))⟩)) (first | (go_at_call 49; go_split_ands; refine (HW.out _ (by (repeat (first | with_reducible exact Below.refl _ _ | with_reducible assumption | (with_reducible refine Below.drew ?_) | (with_reducible refine Below.manyDrew ?_ _) | ((with_reducible refine Below.alloc ?_ ?_ _); rotate_left; (focus (first | omega | (dsimp only; omega) | (simp; done) | (simp; omega)))) | ((with_reducible refine Below.setCell ?_ ?_ _); rotate_left; (focus (first | omega | (dsimp only; omega) | (simp; done) | (simp; omega)))) | ((with_reducible refine Below.step ?_ (by assumption) ?_); rotate_left; (focus (first | omega | (dsimp only; omega) | (simp; done) | (simp; omega)))))))).mono ?_; rintro e wn ⟨bm, rfl, hbn, hL⟩; have hb2n := bstep ‹Below w1.heap.size w1 _› hbn))
    all_goals
      go_wp2_with fail
      go_meet
      exact ⟨rfl, rfl, by assumption⟩
  case rest =>
  obtain ⟨rfl, rfl, hb2⟩ := hcut
  obtain ⟨w2, rfl⟩ : ∃ w2 : World, w2 = wc := ⟨_, rfl⟩
  have hb02 := Below.step Hb1.out hb2 hz1
  have Hb02 := hid hb02
  have hun : w2.cell? ⟨0, 0, none⟩ = some (.iface 78 (.int .i64 2)) := (HT.out w2 hb02).now.un
  have c2 := cell_keep c0 hb2
  have Hb2 := hid hb2
  clear c0 hb2 hb02
  have hsz2 : ∀ p ∈ hd :: tl, p.length ≤ 3000 := fun p hp => Nat.le_trans (Hlen.out p hp) hl
  have HA2 := hid (HA.out.staysB Hb2.out)
  have HNm := hid (fun (A : Option Addr) (c' : Nat) (ws : List Tx) (hs : StrsAt w2 ⟨A, c', ws.map mkB⟩) (hw : ∀ x ∈ ws, x.length ≤ 3000) (hn : ws.length ≤ 4000) => show Calls Tryz.prog 50 #[.slice A ws.length c'] w2 (NumsR (numsL ws) w2) from by
    have := numbers_any ⟨A, c', ws.map mkB⟩ w2 hs (HT.out w2 Hb02.out).now (fun x hx => by
      obtain ⟨p, hp, rfl⟩ := List.mem_map.1 hx
      rw [mkB_size]
      exact hw p hp) (by rw [List.length_map]; exact hn)
    have e : txs (⟨A, c', ws.map mkB⟩ : SlV ByteArray) = ws := by
      unfold txs
      rw [List.map_map]
      exact List.map_id'' (fun _ => rfl) _
    rw [e] at this
    simp only [List.length_map] at this
    exact this)
  cases hm : manyL hd with
  | none =>
    have hbad := hid (show S.line l = (badT, S) from line_none Hcs.out (by unfold lineP; rw [hm]))
    obtain rfl : g0 = false := by rw [Hg.out, hm]; rfl
    clear hm
    go_wp2_with fail
    go_quiet (fail)
    go_wp2_with fail
    go_ret2
    rw [hbad.out]
    exact LineR.bad HD.out (Below.manyDrew Hb02.out _)
  | some k =>
    obtain rfl : g0 = true := by rw [Hg.out, hm]; rfl
    obtain rfl : k0 = (k : Int) := by rw [Hk.out, hm]; rfl
    have Hm := hid hm
    by_cases hp : hd = putW ∧ tl ≠ []
    · obtain ⟨hpw, htl⟩ := hp
      obtain ⟨ini, last, rfl⟩ : ∃ ini last, tl = ini ++ [last] := ⟨tl.dropLast, tl.getLast htl, (List.dropLast_concat_getLast htl).symm⟩
      have HP0 := hid (show lineP hd (ini ++ [last]) = (if last = [] then none else lineN hd k ini last) from by
        unfold lineP
        rw [hm]
        show (if hd = putW ∧ ini ++ [last] ≠ [] then _ else _) = _
        rw [if_pos ⟨hpw, htl⟩, List.getLastD_concat, List.dropLast_concat])
      have hqd : ((mkB hd).toList == [112, 117, 116]) = true := by
        rw [ByteArray.toList_eq, hpw]
        rfl
      rw [List.length_append, List.length_singleton] at hrc
      rw [List.length_append, List.length_singleton]
      have hmany2 : ini.length + 1 + 1 ≤ List.length l + 1 := by
        rw [List.length_append, List.length_singleton] at hmany
        exact hmany
      have hlast : last.length ≤ 3000 := hsz2 last (List.mem_cons_of_mem _ (List.mem_append_right _ (List.mem_singleton_self _)))
      have hs3 : StrsAt w2 ⟨some ⟨b, off + 1, none⟩, c - 1, ini.map mkB⟩ := by
        have h1 : StrsAt w2 ⟨some ⟨b, off + 1, none⟩, c - 1, (ini ++ [last]).map mkB⟩ := HA2.out.tail
        rw [List.map_append] at h1
        exact h1.init
      obtain ⟨M, hM⟩ : ∃ M, M = ini.length + 1 := ⟨_, rfl⟩
      have cl : w2.cell? ⟨b, off + M, none⟩ = some (.string (mkB last)) := by
        obtain ⟨b', off', hA', -, hc'⟩ := HA2.out.row (Nat.succ_pos _)
        simp only at hA'
        cases hA'
        have := hc' (ini.length + 1) (by simp)
        rw [hM, this]
        simp
      have HN := hid (HNm.out (some ⟨b, off + 1, none⟩) (c - 1) ini hs3 (fun x hx => hsz2 x (List.mem_cons_of_mem _ (List.mem_append_left _ hx))) (by omega))
      rw [show ini.length = M - 1 by omega] at HN
      rw [← hM] at hrc ⊢
      have hM0 : 0 < M := by omega
      have hM1 : (1 : Int) ≤ (M : Int) := by omega
      have hM2 : (1 : Int) < (M : Int) + 1 := by omega
      have hM3 : (M : Int) ≤ 4000 := by omega
      have hc1 : ¬ c = 1 := by omega
      have hwr : wrap64 (M : Int) = (M : Int) := IntWalk.wrap64_in (M : Int) ⟨by omega, by omega⟩
      have Hlast := hid hlast
      clear hm HA HA2 hsz2 HNm htl hpw hmany hmany2 hs3 hlast hM
      by_cases hl0 : last = []
      · have hbad := hid (show S.line l = (badT, S) from line_none Hcs.out (HP0.out.trans (if_pos hl0)))
        have hql : ((mkB last).toList == []) = true := by
          rw [hl0, ByteArray.toList_eq]
          rfl
        clear hl0
        go_wp2_with fail
        go_quiet (fail)
        go_wp2_with fail
        go_ret2
        rw [hbad.out]
        exact LineR.bad HD.out (Below.manyDrew Hb02.out _)
      · have HP := hid (HP0.out.trans (if_neg hl0))
        have hql : ((mkB last).toList == []) = false := by
          rw [ByteArray.toList_eq]
          exact beq_eq_false_iff_ne.2 hl0
        clear hl0
        go_wp2_with fail
        clear hwr hM1 hM2 hM3
        refine HN.out.mono ?_
        rintro e w3 ⟨r3, rfl, hr3, hO3, hl3, hb3⟩
        have hb03 := Below.step Hb02.out hb3 Hb02.out.size
        have Hb03 := hid hb03
        have hun3 : w3.cell? ⟨0, 0, none⟩ = some (.iface 78 (.int .i64 2)) := (HT.out w3 hb03).now.un
        have c3 := cell_keep c2 hb3
        have hd3 := HD.out.belowS hb03
        have hT3 := HT.out w3 hb03
        cases hN : numsL ini with
        | none =>
          have hbad := hid (show S.line l = (badT, S) from line_none Hcs.out (HP.out.trans (by unfold lineN; rw [hN])))
          clear hN hr3 hO3 hb3 hb03 hd3 hT3 HN
          go_wp2_with fail
          go_quiet (fail)
          go_wp2_with fail
          go_ret2
          rw [hbad.out]
          exact LineR.bad HD.out (Below.manyDrew Hb03.out _)
        | some n =>
          have hlen3 : r3.xs.length = n.length := by rw [hr3 n hN, List.length_map]
          by_cases hk : n.length = k
          · have hgood := hid (show S.line l = S.act hd n last from line_some Hcs.out (HP.out.trans (by unfold lineN; rw [hN]; exact if_pos hk)))
            have HDo := hid (show Calls Tryz.prog 51 #[.pointer (some ⟨d, 0, none⟩), .string (mkB hd), .slice r3.A r3.xs.length r3.c, .string (mkB last)] w3 (DoR Z base d w3 (S.act hd n last).1 (S.act hd n last).2) from do_any base _ d hd n r3 last S w3 (by rw [hk]; exact Hm.out) (hr3 n hN) hO3 (by have := Hlast.out; unfold maxLen; omega) hd3 hT3)
            have hkk : (r3.xs.length : Int) = (k : Int) := by omega
            clear hN hr3 hO3 hb3 hb03 hd3 hT3 HN hlen3
            go_wp2_with fail
            refine HDo.out.mono ?_
            rintro e w4 ⟨⟨t4, n4, rfl, h4⟩, h5⟩
            have HR := hid (show LineR Z base d w (S.act hd n last).1 (S.act hd n last).2 (.returned (.tuple #[.string (mkB t4), errV n4])) w4 from LineR.does Hb03.out ⟨⟨t4, n4, rfl, h4⟩, h5⟩)
            clear h4 h5
            go_wp2_with fail
            go_ret2
            rw [hgood.out]
            exact HR.out
          · have hbad := hid (show S.line l = (badT, S) from line_none Hcs.out (HP.out.trans (by unfold lineN; rw [hN]; exact if_neg hk)))
            have hkk : ¬ (r3.xs.length : Int) = (k : Int) := by omega
            clear hN hr3 hO3 hb3 hb03 hd3 hT3 HN hlen3
            go_wp2_with fail
            go_quiet (fail)
            go_wp2_with fail
            go_ret2
            rw [hbad.out]
            exact LineR.bad HD.out (Below.manyDrew Hb03.out _)
    · have HP := hid (show lineP hd tl = lineN hd k tl [] from by
        unfold lineP
        rw [hm]
        exact if_neg hp)
      have hqd : ((mkB hd).toList == [112, 117, 116]) = (hd == putW) := by
        rw [ByteArray.toList_eq]
        rfl
      by_cases hc1 : c = 1
      · subst hc1
        obtain rfl : tl = [] := List.length_eq_zero_iff.1 (by omega)
        have HN := hid (HNm.out (some ⟨b, off, none⟩) 0 [] (StrsAt.zero _ _ _) (fun _ h => by cases h) (Nat.zero_le _))
        clear hm hp HA HA2 hsz2 HNm
        rcases hq : (hd == putW) with _ | _
        all_goals
          rw [hq] at hqd
          clear hq
          go_wp2_with fail
          refine HN.out.mono ?_
          rintro e w3 ⟨r3, rfl, hr3, hO3, hl3, hb3⟩
          have hb03 := Below.step Hb02.out hb3 Hb02.out.size
          have Hb03 := hid hb03
          have hun3 : w3.cell? ⟨0, 0, none⟩ = some (.iface 78 (.int .i64 2)) := (HT.out w3 hb03).now.un
          have c3 := cell_keep c2 hb3
          have hd3 := HD.out.belowS hb03
          have hT3 := HT.out w3 hb03
          cases hN : numsL [] with
          | none =>
            have hbad := hid (show S.line l = (badT, S) from line_none Hcs.out (HP.out.trans (by unfold lineN; rw [hN])))
            clear hN hr3 hO3 hb3 hb03 hd3 hT3 HN
            go_wp2_with fail
            go_quiet (fail)
            go_wp2_with fail
            go_ret2
            rw [hbad.out]
            exact LineR.bad HD.out (Below.manyDrew Hb03.out _)
          | some n =>
            have hlen3 : r3.xs.length = n.length := by rw [hr3 n hN, List.length_map]
            by_cases hk : n.length = k
            · have hgood := hid (show S.line l = S.act hd n [] from line_some Hcs.out (HP.out.trans (by unfold lineN; rw [hN]; exact if_pos hk)))
              have HDo := hid (show Calls Tryz.prog 51 #[.pointer (some ⟨d, 0, none⟩), .string (mkB hd), .slice r3.A r3.xs.length r3.c, .string ⟨#[]⟩] w3 (DoR Z base d w3 (S.act hd n []).1 (S.act hd n []).2) from do_any base _ d hd n r3 [] S w3 (by rw [hk]; exact Hm.out) (hr3 n hN) hO3 (by exact Nat.zero_le _) hd3 hT3)
              have hkk : (r3.xs.length : Int) = (k : Int) := by omega
              clear hN hr3 hO3 hb3 hb03 hd3 hT3 HN hlen3
              go_wp2_with fail
              refine HDo.out.mono ?_
              rintro e w4 ⟨⟨t4, n4, rfl, h4⟩, h5⟩
              have HR := hid (show LineR Z base d w (S.act hd n []).1 (S.act hd n []).2 (.returned (.tuple #[.string (mkB t4), errV n4])) w4 from LineR.does Hb03.out ⟨⟨t4, n4, rfl, h4⟩, h5⟩)
              clear h4 h5
              go_wp2_with fail
              go_ret2
              rw [hgood.out]
              exact HR.out
            · have hbad := hid (show S.line l = (badT, S) from line_none Hcs.out (HP.out.trans (by unfold lineN; rw [hN]; exact if_neg hk)))
              have hkk : ¬ (r3.xs.length : Int) = (k : Int) := by omega
              clear hN hr3 hO3 hb3 hb03 hd3 hT3 HN hlen3
              go_wp2_with fail
              go_quiet (fail)
              go_wp2_with fail
              go_ret2
              rw [hbad.out]
              exact LineR.bad HD.out (Below.manyDrew Hb03.out _)
      · by_cases hpw : hd = putW
        · obtain rfl : tl = [] := Classical.byContradiction (fun h => hp ⟨hpw, h⟩)
          have hq : (hd == putW) = true := beq_iff_eq.2 hpw
          rw [hq] at hqd
          have HN := hid (HNm.out (some ⟨b, off + 1, none⟩) (c - 1) [] (StrsAt.zero _ _ _) (fun _ h => by cases h) (Nat.zero_le _))
          clear hm hp HA HA2 hsz2 HNm hq hpw
          go_wp2_with fail
          refine HN.out.mono ?_
          rintro e w3 ⟨r3, rfl, hr3, hO3, hl3, hb3⟩
          have hb03 := Below.step Hb02.out hb3 Hb02.out.size
          have Hb03 := hid hb03
          have hun3 : w3.cell? ⟨0, 0, none⟩ = some (.iface 78 (.int .i64 2)) := (HT.out w3 hb03).now.un
          have c3 := cell_keep c2 hb3
          have hd3 := HD.out.belowS hb03
          have hT3 := HT.out w3 hb03
          cases hN : numsL [] with
          | none =>
            have hbad := hid (show S.line l = (badT, S) from line_none Hcs.out (HP.out.trans (by unfold lineN; rw [hN])))
            clear hN hr3 hO3 hb3 hb03 hd3 hT3 HN
            go_wp2_with fail
            go_quiet (fail)
            go_wp2_with fail
            go_ret2
            rw [hbad.out]
            exact LineR.bad HD.out (Below.manyDrew Hb03.out _)
          | some n =>
            have hlen3 : r3.xs.length = n.length := by rw [hr3 n hN, List.length_map]
            by_cases hk : n.length = k
            · have hgood := hid (show S.line l = S.act hd n [] from line_some Hcs.out (HP.out.trans (by unfold lineN; rw [hN]; exact if_pos hk)))
              have HDo := hid (show Calls Tryz.prog 51 #[.pointer (some ⟨d, 0, none⟩), .string (mkB hd), .slice r3.A r3.xs.length r3.c, .string ⟨#[]⟩] w3 (DoR Z base d w3 (S.act hd n []).1 (S.act hd n []).2) from do_any base _ d hd n r3 [] S w3 (by rw [hk]; exact Hm.out) (hr3 n hN) hO3 (by exact Nat.zero_le _) hd3 hT3)
              have hkk : (r3.xs.length : Int) = (k : Int) := by omega
              clear hN hr3 hO3 hb3 hb03 hd3 hT3 HN hlen3
              go_wp2_with fail
              refine HDo.out.mono ?_
              rintro e w4 ⟨⟨t4, n4, rfl, h4⟩, h5⟩
              have HR := hid (show LineR Z base d w (S.act hd n []).1 (S.act hd n []).2 (.returned (.tuple #[.string (mkB t4), errV n4])) w4 from LineR.does Hb03.out ⟨⟨t4, n4, rfl, h4⟩, h5⟩)
              clear h4 h5
              go_wp2_with fail
              go_ret2
              rw [hgood.out]
              exact HR.out
            · have hbad := hid (show S.line l = (badT, S) from line_none Hcs.out (HP.out.trans (by unfold lineN; rw [hN]; exact if_neg hk)))
              have hkk : ¬ (r3.xs.length : Int) = (k : Int) := by omega
              clear hN hr3 hO3 hb3 hb03 hd3 hT3 HN hlen3
              go_wp2_with fail
              go_quiet (fail)
              go_wp2_with fail
              go_ret2
              rw [hbad.out]
              exact LineR.bad HD.out (Below.manyDrew Hb03.out _)
        · have hq : (hd == putW) = false := beq_eq_false_iff_ne.2 hpw
          rw [hq] at hqd
          have HN := hid (HNm.out (some ⟨b, off + 1, none⟩) (c - 1) tl HA2.out.tail (fun x hx => hsz2 x (List.mem_cons_of_mem _ hx)) (by omega))
          clear hm hp HA HA2 hsz2 HNm hq hpw
          go_wp2_with fail
          refine HN.out.mono ?_
          rintro e w3 ⟨r3, rfl, hr3, hO3, hl3, hb3⟩
          have hb03 := Below.step Hb02.out hb3 Hb02.out.size
          have Hb03 := hid hb03
          have hun3 : w3.cell? ⟨0, 0, none⟩ = some (.iface 78 (.int .i64 2)) := (HT.out w3 hb03).now.un
          have c3 := cell_keep c2 hb3
          have hd3 := HD.out.belowS hb03
          have hT3 := HT.out w3 hb03
          cases hN : numsL tl with
          | none =>
            have hbad := hid (show S.line l = (badT, S) from line_none Hcs.out (HP.out.trans (by unfold lineN; rw [hN])))
            clear hN hr3 hO3 hb3 hb03 hd3 hT3 HN
            go_wp2_with fail
            go_quiet (fail)
            go_wp2_with fail
            go_ret2
            rw [hbad.out]
            exact LineR.bad HD.out (Below.manyDrew Hb03.out _)
          | some n =>
            have hlen3 : r3.xs.length = n.length := by rw [hr3 n hN, List.length_map]
            by_cases hk : n.length = k
            · have hgood := hid (show S.line l = S.act hd n [] from line_some Hcs.out (HP.out.trans (by unfold lineN; rw [hN]; exact if_pos hk)))
              have HDo := hid (show Calls Tryz.prog 51 #[.pointer (some ⟨d, 0, none⟩), .string (mkB hd), .slice r3.A r3.xs.length r3.c, .string ⟨#[]⟩] w3 (DoR Z base d w3 (S.act hd n []).1 (S.act hd n []).2) from do_any base _ d hd n r3 [] S w3 (by rw [hk]; exact Hm.out) (hr3 n hN) hO3 (by exact Nat.zero_le _) hd3 hT3)
              have hkk : (r3.xs.length : Int) = (k : Int) := by omega
              clear hN hr3 hO3 hb3 hb03 hd3 hT3 HN hlen3
              go_wp2_with fail
              refine HDo.out.mono ?_
              rintro e w4 ⟨⟨t4, n4, rfl, h4⟩, h5⟩
              have HR := hid (show LineR Z base d w (S.act hd n []).1 (S.act hd n []).2 (.returned (.tuple #[.string (mkB t4), errV n4])) w4 from LineR.does Hb03.out ⟨⟨t4, n4, rfl, h4⟩, h5⟩)
              clear h4 h5
              go_wp2_with fail
              go_ret2
              rw [hgood.out]
              exact HR.out
            · have hbad := hid (show S.line l = (badT, S) from line_none Hcs.out (HP.out.trans (by unfold lineN; rw [hN]; exact if_neg hk)))
              have hkk : ¬ (r3.xs.length : Int) = (k : Int) := by omega
              clear hN hr3 hO3 hb3 hb03 hd3 hT3 HN hlen3
              go_wp2_with fail
              go_quiet (fail)
              go_wp2_with fail
              go_ret2
              rw [hbad.out]
              exact LineR.bad HD.out (Below.manyDrew Hb03.out _)
end Go.Proofs.YtemhdfodghfkfaaGreatDoor
namespace Go.Proofs.YtemhdfodghfkfaaGreatDoor
open Go.RowKit
open Go.ChangeShapes Go.WideShapes Go.ChangeAt
variable {Z : Nat → Prop}

theorem below4 {B : Nat} {W : World} (hB : B ≤ W.heap.size) (a b c d : Obj) : Below B W ((((W.alloc a).alloc b).alloc c).alloc d) :=
  ((((Below.refl _ _).alloc hB a).alloc (by rw [World.size_alloc]; omega) b).alloc (by rw [World.size_alloc, World.size_alloc]; omega) c).alloc (by rw [World.size_alloc, World.size_alloc, World.size_alloc]; omega) d
theorem as_bad_any (g B : Nat) (old : Value) (W : World) (hg : Gl W) (hb : Blk W g 77 #[old]) (hB : B ≤ W.heap.size) (ht : B ≤ g) :
    Calls Tryz.prog 29 #[unreadV, .iface 80 (.pointer (some ⟨g, 0, none⟩))] W fun ev w' => ev = .returned (.bool true) ∧ Below B W w' :=
  (as_hitB 78 (.int .i64 2) ⟨g, 0, none⟩ old W hg (hb.cell 0) (hb.frozen 0)).mono (fun ev w' h => ⟨h.1, by rw [h.2]; exact (below4 hB _ _ _ _).setCell (p := ⟨g, 0, none⟩) ht _⟩)
theorem as_err_any (n : Int) (g B : Nat) (old : Value) (W : World) (hg : Gl W) (hb : Blk W g 78 #[old]) (hB : B ≤ W.heap.size) (ht : B ≤ g) :
    Calls Tryz.prog 29 #[.iface 78 (.int .i64 n), .iface 81 (.pointer (some ⟨g, 0, none⟩))] W fun ev w' => ev = .returned (.bool true) ∧ w'.cell? ⟨g, 0, none⟩ = some (.int .i64 n) ∧ Below B W w' :=
  (as_hit n ⟨g, 0, none⟩ old W hg (hb.cell 0) (hb.frozen 0)).mono (fun ev w' h => ⟨h.1, by rw [h.2]; exact (((((hb.alloc _).alloc _).alloc _).alloc _).put 0 _).cell 0, by rw [h.2]; exact (below4 hB _ _ _ _).setCell (p := ⟨g, 0, none⟩) ht _⟩)
/-- what desk.answer tells -/
def AnsR (Z : Nat → Prop) (base d : Nat) (w : World) (a : Tx) (S' : RSt) (e : Ending) (w' : World) : Prop := e = .returned (.string (mkB a)) ∧ DeskW Z base w' d S' ∧ Fr (TouchD Z base w) w w'
set_option maxHeartbeats 8000000 in
set_option maxRecDepth 100000 in
theorem answer_any (base d : Nat) (l : Tx) (hl : l.length ≤ 3000) (S : RSt) (w : World) (h : DeskW Z base w d S) (hT : TrB base w) :
    Calls Tryz.prog 13 #[.pointer (some ⟨d, 0, none⟩), .string (mkB l)] w (AnsR Z base d w (S.line l).1 (S.line l).2) := by
  have hB : base ≤ w.heap.size := by obtain ⟨m, v, h1, h2, h3, h4, h5⟩ := h; exact h4
  have HL := hid (line_any base d l hl S w h hT)
  have HT := hid hT
  generalize S.line l = q at *
  clear h hT
  go_enter Tryz.func13, Tryz.ntmps13
  go_wp2_with fail
  refine HL.out.mono ?_
  rintro e w1 ⟨⟨t, ev, rfl, hev⟩, hD, hF⟩
  have hT1 := HT.out.step (hF.below0 hB (fun _ hi => hi.1))
  have HD := hid hD
  have HF := hid hF
  have HT1 := hid (fun W (hW : Below w1.heap.size w1 W) => ((hT1.now).belowS hW))
  obtain ⟨W3, hW3⟩ : ∃ W3 : World, W3 = (w1.alloc (.cells #[.nilIface] 77)).alloc (.cells #[.int .i64 0] 78) := ⟨_, rfl⟩
  have hB3 : Below w1.heap.size w1 W3 := by
    rw [hW3]
    exact ((Below.refl _ _).alloc (Nat.le_refl _) _).alloc (by rw [World.size_alloc]; exact Nat.le_succ _) _
  have hb3 : Blk W3 w1.heap.size 77 #[.nilIface] := by
    rw [hW3]
    exact (Blk.new _ _ _).alloc _
  have he3 : Blk W3 (w1.heap.size + 1) 78 #[.int .i64 0] := by
    rw [hW3]
    exact Blk.new_at (by rw [World.size_alloc])
  have HW3 := hid hW3
  have HB3 := hid hB3
  have hg3 := (HT1.out W3 hB3).gl
  have hl3 : W3.heap.size = w1.heap.size + 2 := by rw [hW3, World.size_alloc, World.size_alloc]
  rcases hev with ⟨rfl, ha⟩ | ⟨n, rfl, hn0, hn8, ha⟩
  · have HA := hid (as_bad_any w1.heap.size w1.heap.size _ W3 hg3 hb3 (by omega) (Nat.le_refl _))
    have Ha := hid ha
    clear hD hF hT1 hB3 hb3 he3 hg3 hW3 ha hl3
    go_upto_region 4 with fail
    rw [← HW3.out]
    go_wp2_with fail
    refine HA.out.mono ?_
    rintro e w4 ⟨rfl, hb4⟩
    have Hb4 := hid (HB3.out.trans hb4)
    clear hb4
    go_wp2_with fail
    go_ret
    exact ⟨by rw [Ha.out]; rfl, HD.out.belowS Hb4.out, HF.out.stepB Hb4.out⟩
  · by_cases h0 : n = 0
    · subst h0
      have HA := hid (fun t W => as_nil t W)
      have Ha := hid (show q.1 = t from ha)
      rw [errV_zero]
      clear hD hF hT1 hB3 hb3 he3 hg3 hW3 ha hl3
      go_upto_region 4 with fail
      rw [← HW3.out]
      go_wp2_with fail
      refine (HA.out _ _).mono ?_
      rintro e w4 ⟨rfl, hw4⟩
      obtain rfl : W3 = w4 := hw4.symm
      go_wp2_with fail
      refine (HA.out _ _).mono ?_
      rintro e w5 ⟨rfl, hw5⟩
      obtain rfl : W3 = w5 := hw5.symm
      go_wp2_with fail
      go_ret
      exact ⟨by rw [Ha.out]; rfl, HD.out.belowS HB3.out, HF.out.stepB HB3.out⟩
    · have HA := hid (as_missB n ⟨w1.heap.size, 0, none⟩ _ W3 hg3 (hb3.cell 0) (hb3.frozen 0))
      have HE := hid (fun W (hW : Below W3.heap.size W3 W) => as_err_any n (w1.heap.size + 1) w1.heap.size _ W (HT1.out W (HB3.out.trans (hW.mono (by omega)))).gl (he3.belowS hW) (by have := hW.size; omega) (Nat.le_succ _))
      have HN := hid (fun W => errname_any n hn0 hn8 W)
      have Ha := hid (show q.1 = nameE n from ha.trans (if_neg h0))
      rw [errV_ne h0]
      clear hD hF hT1 hB3 hb3 he3 hg3 hW3 ha hl3 hn0 hn8 h0
      go_upto_region 4 with fail
      rw [← HW3.out]
      go_wp2_with fail
      refine HA.out.mono ?_
      rintro e w4 ⟨rfl, hb4⟩
      have HE4 := hid (HE.out w4 hb4)
      have Hb4 := hid hb4
      clear hb4 HE HA
      go_wp2_with fail
      refine HE4.out.mono ?_
      rintro e w5 ⟨rfl, hc5, hb5⟩
      have Hb5 := hid hb5
      clear hb5 HE4
      go_wp2_with fail
      refine (HN.out _).mono ?_
      rintro e w6 ⟨rfl, rfl⟩
      go_wp2_with fail
      go_ret
      have hb15 := (HB3.out.trans (Hb4.out.mono (by have := HB3.out.size; omega))).trans Hb5.out
      exact ⟨by rw [Ha.out]; rfl, HD.out.belowS hb15, HF.out.stepB hb15⟩
end Go.Proofs.YtemhdfodghfkfaaGreatDoor
