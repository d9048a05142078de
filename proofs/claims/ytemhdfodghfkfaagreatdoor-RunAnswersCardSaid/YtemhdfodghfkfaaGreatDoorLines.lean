/-
  THE CONTRACT of log.record: what a record of a deed is. CONDITIONS: a key below 8, a text of at most 12 bytes; the library's table of the powers of ten reads as it is laid (Tb).
  THE LAW of a loop over an iterator that keeps its state in a captured box of its own (strings.Lines): the caller's invariant does not mind a store into that box. CONDITIONS: none of a program.
  THE CONTRACT of strings.Lines: a loop over its value goes through the lines of a text, in order. CONDITIONS: the text has at most 2^40 bytes.
-/
import Derived.Test.YtemhdfodghfkfaaGreatDoorLogLaw
import Derived.Test.YtemhdfodghfkfaaGreatDoorIKit
import Derived.Test.YtemhdfodghfkfaaGreatDoorDoor
import Derived.Test.YtemhdfodghfkfaaGreatDoorShelf
import Derived.Lib.ConvBytes
import Derived.Lib.ItoaLen
import Derived.Lib.AppendIntMem
import Derived.Deep.RegionWith
import Derived.Deep.DeepCutAuto
import Derived.Deep.CutBlock
import Derived.RangeFuncNested
import Derived.RangeFuncBound
import Derived.RangeFuncCalls
import Derived.RangeFuncLeaves
import Derived.Shelf.Abstract
import Derived.Shelf.RegionOpen
import Derived.WalkKit
import Derived.OwnWalkIn
import Derived.TacticsInMore
import Derived.LoopNIn
import Derived.LoopIn
import Derived.Test.YtemhdfodghfkfaaGreatDoorKit
namespace Go.Proofs.YtemhdfodghfkfaaGreatDoor
open Go.RowKit
open Go.ChangeShapes Go.WideShapes Go.ChangeAt

theorem grow_below (w : World) (k : Nat) (os : Array Obj) : Below w.heap.size w (Go.Sort.grow (w.drewN k) os) := by
  exact Go.Lib.below_grow _ _ (Nat.le_refl _) _ _
theorem itoa_any (n : Int) (h0 : -9223372036854775808 ≤ n) (h1 : n ≤ 9223372036854775807) (w : World) (ht : Tb w) :
    Calls Tryz.prog 89 #[.int .i64 n] w fun e w' => e = .returned (.string ⟨(Go.Lib.itoa n).toArray⟩) ∧ Below w.heap.size w w' := by
  refine (Tryz.strconv_Itoa n h0 h1 w ht).mono ?_
  rintro e w' ⟨rfl, k, os, rfl⟩
  exact ⟨rfl, grow_below _ _ _⟩
theorem bytesWorld_below (w : World) (e : TypeId) (s : ByteArray) : Below w.heap.size w (Go.Lib.bytesWorld w e s) :=
  ⟨rfl, rfl, rfl, by rw [Go.Lib.bytesWorld_size]; omega, fun i hi => Go.Lib.bytesWorld_at_old w e s i hi⟩
/-- a row of one string, just laid -/
theorem Ow.oneStr (w : World) (s : ByteArray) : Ow cellB 1 w.heap.size 9 (w.alloc (.cells #[.string s] 9)) (.slice (some ⟨w.heap.size, 0, none⟩) 1 1) [s] :=
  ⟨_, 1, rfl, Nat.le_refl _, by decide, .inr ⟨w.heap.size, 0, #[.string s], rfl, Nat.le_refl _, Blk.new _ _ _, Nat.le_refl _, fun i hi f hf => by
    have hi' : i < 1 := hi
    obtain rfl : i = 0 := by omega
    obtain rfl : f = 0 := by omega
    rfl⟩⟩

/-- the words of a record, as texts -/
def recS (k : Nat) (g : Bool) (l : List UInt8) : List ByteArray := mkB (Lib.itoa (k : Int)) :: ((if g then [mkB [45]] else []) ++ l.map fun b => mkB (Lib.itoa (b.toNat : Int)))
theorem recS_lists (k : Nat) (g : Bool) (t : ByteArray) : (recS k g t.data.toList).map (·.data.toList) = recW k g t := by
  unfold recS recW
  rw [List.map_cons, List.map_append, List.map_map]
  cases g <;> rfl
theorem recS_snoc (k : Nat) (g : Bool) (l : List UInt8) (b : UInt8) : recS k g (l ++ [b]) = recS k g l ++ [mkB (Lib.itoa (b.toNat : Int))] := by
  unfold recS
  rw [List.map_append, List.map_singleton, List.cons_append, List.append_assoc]
theorem recS_len (k : Nat) (g : Bool) (l : List UInt8) : (recS k g l).length ≤ 2 + l.length := by
  unfold recS
  rw [List.length_cons, List.length_append, List.length_map]
  cases g <;> simp <;> omega

end Go.Proofs.YtemhdfodghfkfaaGreatDoor
namespace Go.Proofs.YtemhdfodghfkfaaGreatDoor
open Go.RowKit Go.Shelf

/-- the blocks that a loop over an iterator with a box turns: the box; the block of deferred calls; the loop's record -/
def Three (B D : Nat) (i : Nat) : Prop := i = B ∨ i = D ∨ i = D + 1
/-- what a body owes: its invariant, and those three blocks as they were -/
def boxPost {α : Type} (B D : Nat) (I : List α → World → Prop) (xs : List α) (W : World) : Exit → Act → World → Prop
  | .normal, _, W' => I xs W' ∧ ∀ i, Three B D i → W'.heap[i]? = W.heap[i]?
  | _, _, _ => False
/-- what an iterator with a box owes -/
def BoxSeq {α : Type} (F : Fence) (n : Nat) (P : Program) (gf : Nat) (B : Nat) (enc : α → Value) (xs : List α) (w : World) : Prop :=
  ∀ (l : Nat) (J : List α → World → Prop), (∀ pre W W', J pre W → Fr (fun i => i = B) W W' → J pre W') →
    ∀ W, W.heap[B]? = w.heap[B]? →
      (∀ pre x rest W1, xs = pre ++ x :: rest → J pre W1 → YieldAt F (n - 1) P l #[enc x] W1 fun e W' => e = .returned (.bool true) ∧ J (pre ++ [x]) W' ∧ W'.heap[B]? = W1.heap[B]?) →
      J [] W → CallsIn F n P gf #[.func (.yield l) #[] #[], .pointer (some ⟨B, 0, none⟩)] W fun e W' => (∃ v, e = .returned v) ∧ J xs W'

theorem range_box {α : Type} {F : Fence} {n : Nat} {P : Program} {g : Operand} {ps : Array Tmp} {assign body : Code} {Q : Exit → Act → World → Prop} {a : Act} {w : World}
    (hro : F.round = none) (h1 : 1 ≤ n) {gf B : Nat} (hg : a.eval g = .func (.func gf) #[] #[.pointer (some ⟨B, 0, none⟩)]) (hFg : F.fn gf) (eg : ∀ args w, (callFunc gf args).run P w = .ok (.enter gf args) w)
    (enc : α → Value) (xs : List α) (hB : B < w.heap.size) (hps : ps.size = 1) (hseq : BoxSeq F (n - 1) P gf B enc xs w)
    (I : List α → World → Prop) (hI : ∀ pre W W', I pre W → Fr (Three B w.heap.size) W W' → I pre W') (h0 : I [] w) (a₁ : α → Act)
    (hassign : ∀ (l : Nat) (x : α) (W : World) (K : Act → World → Prop), K (a₁ x) W →
      assign.wpIn (F.inRound l) (n - 1 - 1) P (Exit.then K (fun _ _ _ => False)) { tmps := (ps.zip #[enc x]).foldl (fun t (p, v) => t.setIfInBounds p v) a.tmps, defers := [] } W)
    (hbody : ∀ (l : Nat) (pre : List α) (x : α) (rest : List α) (W : World), xs = pre ++ x :: rest → I pre W → w.heap.size + 1 < W.heap.size → body.wpIn (F.inRound l) (n - 1 - 1) P (boxPost B w.heap.size I (pre ++ [x]) W) (a₁ x) W)
    (hdone : ∀ (W : World), I xs W → W.heap[w.heap.size]? = some (.deferred (some [])) → Q .normal { a with defers := { target := .collected w.heap.size, args := #[] } :: a.defers } W) :
    (Code.rangeFunc g ps assign body).wpIn F n P Q a w := by
  refine wpIn_rangeFunc ?_
  intro fn hfn
  rw [hro]
  obtain ⟨D, hD⟩ : ∃ D, D = w.heap.size := ⟨_, rfl⟩
  obtain ⟨rec, hrec⟩ : ∃ rec : LoopState → Option Code → Loop, rec = fun st pe => { state := st, pending := pe, fn := fn, tmps := a.tmps, params := ps, assign := assign, body := body, defers := w.heap.size } := ⟨_, rfl⟩
  obtain ⟨W1, hW1⟩ : ∃ W1, (w.alloc (.deferred (some []))).alloc (.loop (rec .ready none)) = W1 := ⟨_, rfl⟩
  have hF1 : Fr (Three B w.heap.size) w W1 := by rw [← hW1]; exact ((Fr.refl _ _).alloc _).alloc _
  have hL1 : W1.heap[w.heap.size + 1]? = some (.loop (rec .ready none)) := by
    have h := World.alloc_heap_new (w.alloc (.deferred (some []))) (.loop (rec .ready none))
    rw [World.size_alloc, hW1] at h
    exact h
  have hK1 : W1.heap[w.heap.size]? = some (.deferred (some [])) := by
    rw [← hW1]
    exact (Below.heap_alloc _ _ _ (by rw [World.size_alloc]; omega)).trans (World.alloc_heap_new w _)
  have hB1 : W1.heap[B]? = w.heap[B]? := by
    rw [← hW1, Below.heap_alloc _ _ _ (by rw [World.size_alloc]; omega), Below.heap_alloc _ _ _ hB]
  refine ⟨w.heap.size + 1, [{ target := .collected w.heap.size, args := #[] }], W1, { target := .fn (.func gf) #[.pointer (some ⟨B, 0, none⟩)], args := #[.func (.yield (w.heap.size + 1)) #[] #[]] }, W1, gf,
    #[.func (.yield (w.heap.size + 1)) #[] #[]] ++ #[.pointer (some ⟨B, 0, none⟩)], W1, ?_, ?_, ?_, ?_, fun _ => h1, ?_⟩
  · rw [← hW1, hrec]; exact run_enterLoop_outer _ _ _ _ _
  · simp only [resolve, hg]
    simp [go_sem]
  · intro f' hf'
    simp [Target.leads] at hf'
    subst hf'
    exact hFg
  · simp [invoke, go_sem, eg]
  · have hlt : ∀ {W : World} {k : Nat} {o : Obj}, W.heap[k]? = some o → k < W.heap.size := fun h => (Array.getElem?_eq_some_iff.1 h).1
    refine (hseq (w.heap.size + 1)
      (fun pre W => I pre W ∧ W.heap[w.heap.size + 1]? = some (.loop (rec .ready none)) ∧ W.heap[w.heap.size]? = some (.deferred (some [])))
      (fun pre W W' hs hf => ⟨hI pre W W' hs.1 (hf.mono fun i _ hi => .inl hi), (hf.block _ (hlt hs.2.1) (by omega)).trans hs.2.1, (hf.block _ (hlt hs.2.2) (by omega)).trans hs.2.2⟩)
      W1 hB1 ?_ ⟨hI [] w W1 h0 hF1, hL1, hK1⟩).mono ?_
    · rintro pre x rest W hx ⟨hi, hl, hk⟩
      have hy := run_yield (P := P) (args := #[enc x]) hl (by rw [hrec]; exact hps.symm)
      rw [hrec] at hy
      refine ⟨fn, _, assign, body, hy, roundIn_of_wpIn hfn (hassign _ x W _ ⟨_, run_beginRound hl (by rw [hrec]), ?_⟩)⟩
      have hput : ∀ (V : World) (o : Obj), Fr (Three B w.heap.size) V (V.putObj (w.heap.size + 1) o) := fun V o => (Fr.refl _ _).grown (grownBy_putObj' V (w.heap.size + 1) o) (fun k e => by cases e; exact .inl (.inr (.inr rfl)))
      have hl2 : (W.putObj (w.heap.size + 1) (.loop { rec .ready none with state := .busy })).heap[w.heap.size + 1]? = some (.loop { rec .ready none with state := .busy }) := World.putObj_heap_same (hlt hl)
      have hk2 : (W.putObj (w.heap.size + 1) (.loop { rec .ready none with state := .busy })).heap[w.heap.size]? = some (.deferred (some [])) := (World.putObj_heap_other (by omega)).trans hk
      have hB2 : (W.putObj (w.heap.size + 1) (.loop { rec .ready none with state := .busy })).heap[B]? = W.heap[B]? := World.putObj_heap_other (by omega)
      refine wpIn_mono (hbody _ pre x rest _ hx (hI pre W _ hi (hput W _)) (by rw [World.putObj_size]; exact hlt hl)) ?_
      rintro e a3 W3 hp
      cases e with
      | normal =>
        obtain ⟨hi3, hk3⟩ := hp
        have hl3 := (hk3 _ (.inr (.inr rfl))).trans hl2
        have hd3 := (hk3 _ (.inr (.inl rfl))).trans hk2
        have hb3 := (hk3 _ (.inl rfl)).trans hB2
        have hend := run_endRound (P := P) none hl3
        rw [hrec] at hend
        refine ⟨_, _, hend, rfl, ⟨hI _ W3 _ hi3 (hput W3 _), ?_, ?_⟩, ?_⟩
        · rw [hrec]; exact World.putObj_heap_same (hlt hl3)
        · exact (World.putObj_heap_other (by omega)).trans hd3
        · exact (World.putObj_heap_other (by omega)).trans hb3
      | ret => exact hp.elim
      | exit id => exact hp.elim
      | goto t => exact hp.elim
      | panic ch => exact hp.elim
      | outgrown => exact hp.elim
    · rintro e W2 ⟨⟨v, rfl⟩, hi, hl, hk⟩
      have hend := run_endLoop (P := P) hl (by rw [hrec]; simp)
      rw [hrec] at hend
      refine ⟨none, _, hend, hdone _ (hI _ W2 _ hi ((Fr.refl _ _).grown (grownBy_putObj' W2 (w.heap.size + 1) _) (fun k e => by cases e; exact .inl (.inr (.inr rfl))))) ((World.putObj_heap_other (by omega)).trans hk)⟩
end Go.Proofs.YtemhdfodghfkfaaGreatDoor
namespace Go.Proofs.YtemhdfodghfkfaaGreatDoor
open Go.RowKit Go.Shelf

attribute [local go_sem] Oper.semAt_some

/-! ### plain -/
def linesGo : List UInt8 → List UInt8 → List (List UInt8)
  | cur, [] => if cur.isEmpty then [] else [cur]
  | cur, b :: l => if b = 10 then (cur ++ [b]) :: linesGo [] l else linesGo (cur ++ [b]) l
/-- the lines of a text, each with its newline (the last one perhaps without) -/
def linesL (l : List UInt8) : List (List UInt8) := linesGo [] l
theorem linesGo_one : ∀ (p cur m : List UInt8), (10 : UInt8) ∉ p → linesGo cur (p ++ 10 :: m) = (cur ++ p ++ [10]) :: linesGo [] m
  | [], cur, m, _ => by simp [linesGo]
  | b :: p, cur, m, h => by
    have hb : b ≠ 10 := fun e => h (by simp [e])
    rw [List.cons_append, linesGo, if_neg hb, linesGo_one p _ m (fun hm => h (by simp [hm]))]
    simp
theorem linesGo_none : ∀ (p cur : List UInt8), (10 : UInt8) ∉ p → cur ++ p ≠ [] → linesGo cur p = [cur ++ p]
  | [], cur, _, hn => by
    rw [List.append_nil] at hn ⊢
    unfold linesGo
    cases cur with
    | nil => exact absurd rfl hn
    | cons _ _ => rfl
  | b :: p, cur, h, hn => by
    have hb : b ≠ 10 := fun e => h (by simp [e])
    rw [linesGo, if_neg hb, linesGo_none p _ (fun hm => h (by simp [hm])) (by simp)]
    simp
theorem idx_spec : ∀ (l : List UInt8), (Lib.indexByte l 10 = -1 ∧ (10 : UInt8) ∉ l) ∨ ∃ p m, l = p ++ 10 :: m ∧ (10 : UInt8) ∉ p ∧ Lib.indexByte l 10 = (p.length : Int)
  | [] => .inl ⟨rfl, by simp⟩
  | b :: l => by
    unfold Lib.indexByte
    by_cases hb : b = 10
    · subst hb
      exact .inr ⟨[], l, rfl, by simp, by simp⟩
    · have hb' : (b == 10) = false := beq_eq_false_iff_ne.2 hb
      rcases idx_spec l with ⟨h, hn⟩ | ⟨p, m, rfl, hn, h⟩
      · refine .inl ⟨by rw [hb', h]; rfl, ?_⟩
        intro hm
        rcases List.mem_cons.1 hm with e | hm
        · exact hb e.symm
        · exact hn hm
      · refine .inr ⟨b :: p, m, rfl, ?_, ?_⟩
        · intro hm
          rcases List.mem_cons.1 hm with e | hm
          · exact hb e.symm
          · exact hn hm
        · have hne : ((p.length : Int) == -1) = false := beq_eq_false_iff_ne.2 (by omega)
          rw [hb', h, hne, List.length_cons]
          simp
theorem linesL_nil : linesL [] = [] := rfl
/-- the size of the text in a box -/
def boxLen (B : Nat) (w : World) : Nat := match w.cell? ⟨B, 0, none⟩ with | some (.string s) => s.size | _ => 0
theorem boxLen_of {B : Nat} {w : World} {t : TypeId} {s : ByteArray} (h : Blk w B t #[.string s]) : boxLen B w = s.size := by
  unfold boxLen
  rw [show w.cell? ⟨B, 0, none⟩ = some (.string s) from h.cell 0]
theorem extract_take (l : List UInt8) (k : Nat) : (mkB l).extract 0 k = mkB (l.take k) := by
  apply ByteArray.ext
  rw [ByteArray.data_extract]
  show (l.toArray).extract 0 k = (l.take k).toArray
  simp
theorem extract_drop (l : List UInt8) (k : Nat) : (mkB l).extract k (mkB l).size = mkB (l.drop k) := by
  apply ByteArray.ext
  rw [ByteArray.data_extract, mkB_size]
  show (l.toArray).extract k l.length = (l.drop k).toArray
  apply Array.toList_inj.1
  simp only [Array.toList_extract, List.extract]
  rw [List.take_of_length_le (by rw [List.length_drop]; omega)]

/-! ### the walk -/
set_option maxRecDepth 100000 in
set_option maxHeartbeats 2000000 in
theorem lines_in (F : Fence) (n : Nat) (h5 : F.fn 11) (hro : F.round = none) (s : ByteArray) (w : World) :
    CallsIn F n Tryz.prog 11 #[.string s] w fun e w' => e = .returned (.func (.func 25) #[] #[.pointer (some ⟨w.heap.size, 0, none⟩)]) ∧ w' = w.alloc (.cells #[.string s] 9) := by
  refine callsIn_of_wp Tryz.func11 rfl h5 ?_ hro
  simp only [Tryz.ntmps11, List.size_toArray, List.length_cons, List.length_nil, Nat.reduceAdd, Nat.reduceSub, Array.replicate_succ, Array.replicate_zero, List.push_toArray, List.append_toArray, List.nil_append, List.cons_append]
  gi_wp2
  go_ret
  exact ⟨rfl, rfl⟩

set_option maxRecDepth 100000 in
set_option maxHeartbeats 4000000 in
theorem lines_seq (F : Fence) (n : Nat) (h6 : F.fn 25) (hFw : F = Fence.wide) (hn : 1 ≤ n) (B : Nat) (s : ByteArray) (hs : s.size ≤ 1099511627776) (w : World) (hB : Blk w B 9 #[.string s]) :
    BoxSeq F n Tryz.prog 25 B (fun x : List UInt8 => Value.string (mkB x)) (linesL s.data.toList) w := by
  subst hFw
  intro l J hJ W hW hY h0
  have hB0 : Blk W B 9 #[.string s] := hW.trans hB
  refine callsIn_of_wp Tryz.func25 rfl h6 ?_ rfl
  simp only [Tryz.ntmps25, List.size_toArray, List.length_cons, List.length_nil, Nat.reduceAdd, Nat.reduceSub, Array.replicate_succ, Array.replicate_zero, List.push_toArray, List.append_toArray, List.nil_append, List.cons_append]
  gi_wp2
  gi_loopw [3] (fun _ wr => ∃ (pre : List (List UInt8)) (r : List UInt8), linesL s.data.toList = pre ++ linesL r ∧ r.length ≤ 1099511627776 ∧ Blk wr B 9 #[.string (mkB r)] ∧ J pre wr)
    (fun _ wr => boxLen B wr)
  case atStart =>
    exact ⟨[], s.data.toList, rfl, hs, hB0, h0⟩
  case round =>
    obtain ⟨pre, r, hx, hr, hb, hJs⟩ := hrel
    have hc : wr.cell? ⟨B, 0, none⟩ = some (.string (mkB r)) := hb.cell 0
    have hfz : wr.frozen? ⟨B, 0, none⟩ = false := hb.frozen 0
    have hsz := mkB_size r
    have hml := mkB_list r
    cases r with
    | nil =>
      rw [linesL_nil, List.append_nil] at hx
      subst hx
      gi_wp2
      go_end0
      exact ⟨⟨_, rfl⟩, hJs⟩
    | cons b0 r0 =>
      generalize hr0 : b0 :: r0 = r at *
      have hpos : 0 < r.length := by rw [← hr0]; simp
      have hI : Calls Tryz.prog 26 #[.string (mkB r), .int .u8 10] wr fun e w' => e = .returned (.int .i64 (Lib.indexByte r 10)) ∧ w' = wr := Tryz.strings_IndexByte (mkB r) 10 wr
      rcases idx_spec r with ⟨h, hno⟩ | ⟨p, m, hr1, hno, h⟩
      · rw [h] at hI
        have hl1 : linesL r = [r] := by
          have := linesGo_none r [] hno (by rw [← hr0]; simp)
          rw [List.nil_append] at this
          exact this
        rw [hl1] at hx
        have hW2 : Fr (fun i => i = B) wr (wr.setCell ⟨B, 0, none⟩ (.string ⟨#[]⟩)) := (Fr.refl _ _).setCell (.inl (show (fun i => i = B) B from rfl)) _
        have hb2 : Blk (wr.setCell ⟨B, 0, none⟩ (.string ⟨#[]⟩)) B 9 #[.string (mkB [])] := hb.put 0 _
        obtain ⟨fn, tmps, assign, body, hy, hR⟩ := hY pre r [] _ hx (hJ pre wr _ hJs hW2)
        gi_wp2_with (refine ⟨trivial, ?_⟩; gi_at_call 26; refine (callsIn_wide.2 hI).mono ?_; rintro e wx ⟨rfl, rfl⟩)
        refine hR.mono ?_
        rintro e W3 ⟨rfl, hJ3, hk3⟩
        have hb3 : Blk W3 B 9 #[.string (mkB [])] := hk3.trans hb2
        gi_wp2
        go_roundw
        case rel => exact ⟨pre ++ [r], [], by rw [hx, linesL_nil, List.append_nil], Nat.zero_le _, hb3, hJ3⟩
        case measure => rw [boxLen_of hb3, boxLen_of hb, mkB_size, mkB_size]; exact hpos
      · rw [h] at hI
        have hl1 : linesL r = (p ++ [10]) :: linesL m := by
          have := linesGo_one p [] m hno
          rw [List.nil_append, ← hr1] at this
          exact this
        rw [hl1] at hx
        have hlen : r.length = p.length + 1 + m.length := by rw [hr1]; simp; omega
        have hx1 : (mkB r).extract 0 (p.length + 1) = mkB (p ++ [10]) := by
          rw [extract_take, hr1]
          congr 1
          rw [List.take_append, List.take_of_length_le (by omega)]
          simp
        have hx2 : (mkB r).extract (p.length + 1) (mkB r).size = mkB m := by
          rw [extract_drop, hr1]
          congr 1
          rw [List.drop_append]
          simp
        have hb2 : Blk (wr.setCell ⟨B, 0, none⟩ (.string (mkB m))) B 9 #[.string (mkB m)] := hb.put 0 _
        have hmx : Tryz.prog.follows .mixedOrders = true := by kernel_rfl
        have hk1 : p.length + 1 ≤ r.length := by omega
        have hml2 : m.length < r.length := by omega
        clear hr1 hr0 hlen hl1 h hml
        have Hx := hid hx
        clear hx
        gi_wp2_with (refine ⟨trivial, ?_⟩; gi_at_call 26; refine (callsIn_wide.2 hI).mono ?_; rintro e wx ⟨rfl, rfl⟩)
        have hwp : wrap64 ((p.length : Int) + 1) = ((p.length + 1 : Nat) : Int) := by unfold wrap64; omega
        gi_region
        rw [hsz] at hx2
        rw [hx2]
        have hW2 : Fr (fun i => i = B) wx (wx.setCell ⟨B, 0, none⟩ (.string (mkB m))).drew := ((Fr.refl _ _).setCell (.inl (show (fun i => i = B) B from rfl)) _).drew
        obtain ⟨fn, tmps, assign, body, hy, hR⟩ := hY pre (p ++ [10]) (linesL m) _ Hx.out (hJ pre wx _ hJs hW2)
        gi_wp2
        refine hR.mono ?_
        rintro e W3 ⟨rfl, hJ3, hk3⟩
        have hb3 : Blk W3 B 9 #[.string (mkB m)] := hk3.trans hb2
        gi_wp2
        go_roundw
        case rel => exact ⟨pre ++ [p ++ [10]], m, by rw [Hx.out]; simp, by omega, hb3, hJ3⟩
        case measure => rw [boxLen_of hb3, boxLen_of hb, mkB_size, mkB_size]; exact hml2
end Go.Proofs.YtemhdfodghfkfaaGreatDoor
