/-
  A LIBRARY OF THIS SEAT's OWN, over whatever program: how arguments that came in are opened (codecs), frames of worlds, and the frame of a law's row. It proves no statement by itself. CONDITIONS: none.
-/
import Derived.Test.YtmgiecoeeidgoaaGreatDoorRows
import Derived.WalkKit
import Derived.WalkSpells
import Derived.WalkLawsBesides
import Derived.ProofKit
import Derived.Deep.Slices
import Derived.Deep.Fields
namespace Go.Proofs.YtmgiecoeeidgoaaGreatDoor
open Go.RowKit
open Go.ChangeShapes Go.WideShapes Go.ChangeAt

theorem hid {p : Prop} (h : p) : Hid p := h

theorem bcell {W w1 : World} (hb : Below W.heap.size W w1) : (∀ b o, b < W.heap.size → w1.cell? ⟨b, o, none⟩ = W.cell? ⟨b, o, none⟩) ∧ (∀ b o, b < W.heap.size → w1.frozen? ⟨b, o, none⟩ = W.frozen? ⟨b, o, none⟩) :=
  ⟨fun b o h => hb.cell (p := ⟨b, o, none⟩) h, fun b o h => hb.frozen (p := ⟨b, o, none⟩) h⟩
theorem Below.manyDrew {B : Nat} {a w : World} (h : Below B a w) (n : Nat) : Below B a (w.drewN n) := ⟨h.os, h.tape, h.output, h.size, h.block⟩
theorem Below.step {B : Nat} {a w w' : World} (h : Below B a w) (hb : Below w.heap.size w w') (hB : B ≤ w.heap.size) : Below B a w' := h.trans (hb.mono hB)

/-! ### Frames: the blocks outside S that were there are as they were -/
structure Fr (S : Nat → Prop) (w w' : World) : Prop where
  os : w'.os = w.os
  tape : w'.tape = w.tape
  output : w'.output = w.output
  size : w.heap.size ≤ w'.heap.size
  block : ∀ k, k < w.heap.size → ¬ S k → w'.heap[k]? = w.heap[k]?
section
variable {S S' : Nat → Prop} {a b c w w' : World}
theorem Fr.refl (S : Nat → Prop) (w : World) : Fr S w w := ⟨rfl, rfl, rfl, Nat.le_refl _, fun _ _ _ => rfl⟩
theorem Fr.trans (h : Fr S a b) (k : Fr S' b c) (hS : ∀ i, S' i → S i ∨ a.heap.size ≤ i) : Fr S a c :=
  ⟨k.os.trans h.os, k.tape.trans h.tape, k.output.trans h.output, Nat.le_trans h.size k.size, fun i hi hn =>
    (k.block i (Nat.lt_of_lt_of_le hi h.size) (fun hs => (hS i hs).elim hn (fun hge => by omega))).trans (h.block i hi hn)⟩
theorem Fr.mono (h : Fr S a b) (hS : ∀ i, i < a.heap.size → S i → S' i) : Fr S' a b := ⟨h.os, h.tape, h.output, h.size, fun i hi hn => h.block i hi (fun hs => hn (hS i hi hs))⟩
theorem Fr.drew (h : Fr S a w) : Fr S a w.drew := ⟨h.os, h.tape, h.output, h.size, h.block⟩
theorem Fr.drewN (h : Fr S a w) (n : Nat) : Fr S a (w.drewN n) := ⟨h.os, h.tape, h.output, h.size, h.block⟩
theorem Fr.alloc (h : Fr S a w) (o : Obj) : Fr S a (w.alloc o) :=
  h.trans (S' := fun _ => False) ⟨rfl, rfl, rfl, by simp, fun k hk _ => Below.heap_alloc _ _ _ hk⟩ (fun _ h => h.elim)
theorem Fr.setCell (h : Fr S a w) {p : Addr} (hp : S p.block ∨ a.heap.size ≤ p.block) (u : Value) : Fr S a (w.setCell p u) :=
  h.trans (S' := fun i => i = p.block) ⟨rfl, rfl, rfl, by simp, fun k _ hn => Below.heap_setCell _ _ _ _ hn⟩ (by rintro i rfl; exact hp)
theorem Fr.grown (h : Fr S a w) {row : Option Nat} (hg : w.grownBy w' row) (hr : ∀ k, row = some k → S k ∨ a.heap.size ≤ k) : Fr S a w' :=
  h.trans (S' := fun i => some i = row) ⟨hg.os, hg.tape, hg.output, hg.size, fun k hk hn => hg.block k hk hn⟩ (fun i hi => hr i hi.symm)
theorem Fr.of_below {B : Nat} (h : Below B a b) (hS : ∀ i, i < a.heap.size → B ≤ i → S i) : Fr S a b :=
  ⟨h.os, h.tape, h.output, h.size, fun i hi hn => h.block i (by rcases Nat.lt_or_ge i B with hlt | hge; exact hlt; exact absurd (hS i hi hge) hn)⟩
theorem Fr.ofB (h : Below a.heap.size a b) : Fr S a b := Fr.of_below h (fun _ h1 h2 => by omega)
theorem Fr.below (h : Fr S a b) {B : Nat} (hB : B ≤ a.heap.size) (hS : ∀ i, i < B → ¬ S i) : Below B a b :=
  ⟨h.os, h.tape, h.output, h.size, fun i hi => h.block i (by omega) (hS i hi)⟩
theorem Fr.cell (h : Fr S w w') {p : Addr} (hp : p.block < w.heap.size) (hn : ¬ S p.block) : w'.cell? p = w.cell? p := World.cell?_of_block (w := w) (h.block p.block hp hn)
theorem Fr.frozen (h : Fr S w w') {p : Addr} (hp : p.block < w.heap.size) (hn : ¬ S p.block) : w'.frozen? p = w.frozen? p := World.frozen?_of_block (w := w) (h.block p.block hp hn)
end

/-! ### A block that is known whole -/
def Blk (w : World) (g : Nat) (t : TypeId) (cs : Array Value) : Prop := w.heap[g]? = some (.cells cs t (0, 0))
section
variable {S : Nat → Prop} {w w' : World} {g : Nat} {t : TypeId} {cs : Array Value}
theorem Blk.lt (h : Blk w g t cs) : g < w.heap.size := by
  rcases Nat.lt_or_ge g w.heap.size with hlt | hge
  · exact hlt
  · unfold Blk at h; rw [Array.getElem?_eq_none hge] at h; cases h
theorem Blk.cell (h : Blk w g t cs) (i : Nat) : w.cell? ⟨g, i, none⟩ = cs[i]? := by
  unfold Blk at h
  simp [World.cell?, h]
theorem Blk.frozen (h : Blk w g t cs) (i : Nat) : w.frozen? ⟨g, i, none⟩ = false := by
  unfold Blk at h
  simp [World.frozen?, h]
theorem Blk.new (w : World) (t : TypeId) (cs : Array Value) : Blk (w.alloc (.cells cs t)) w.heap.size t cs := by
  show (w.heap.push _)[w.heap.size]? = _
  simp
theorem Blk.new_at {w : World} {t : TypeId} {cs : Array Value} {g : Nat} (h : g = w.heap.size) : Blk (w.alloc (.cells cs t)) g t cs := by subst h; exact Blk.new w t cs
theorem Blk.drew (h : Blk w g t cs) : Blk w.drew g t cs := h
theorem Blk.drewN (h : Blk w g t cs) (n : Nat) : Blk (w.drewN n) g t cs := h
theorem Blk.alloc (h : Blk w g t cs) (o : Obj) : Blk (w.alloc o) g t cs := (Below.heap_alloc w o g h.lt).trans h
theorem Blk.put (h : Blk w g t cs) (i : Nat) (u : Value) : Blk (w.setCell ⟨g, i, none⟩ u) g t (cs.setIfInBounds i u) := by
  unfold Blk at h ⊢
  simp [World.setCell, Array.getElem?_modify, h]
theorem Blk.far (h : Blk w g t cs) {p : Addr} (hp : g ≠ p.block) (u : Value) : Blk (w.setCell p u) g t cs := (Below.heap_setCell w p u g hp).trans h
theorem Blk.fr (h : Blk w g t cs) (hf : Fr S w w') (hn : ¬ S g) : Blk w' g t cs := (hf.block g h.lt hn).trans h
theorem Blk.below {B : Nat} (h : Blk w g t cs) (hb : Below B w w') (hg : g < B) : Blk w' g t cs := (hb.block g hg).trans h
theorem Blk.belowS (h : Blk w g t cs) (hb : Below w.heap.size w w') : Blk w' g t cs := h.below hb h.lt
theorem Blk.eq_ (h : Blk w g t cs) {t' : TypeId} {cs' : Array Value} (h' : Blk w g t' cs') : cs = cs' ∧ t = t' := by
  unfold Blk at h h'
  rw [h] at h'
  injection h' with h'
  injection h' with h1 h2
  exact ⟨h1, h2⟩
end

/-! ### A struct of five cells in a block of its own: stored whole, handed back -/
theorem Blk.put5 {w : World} {g : Nat} {t : TypeId} {a b c d e : Value} (h : Blk w g t #[a, b, c, d, e]) (x0 x1 x2 x3 x4 : Value) :
    Blk (((((w.setCell ⟨g, 0, none⟩ x0).setCell ⟨g, 1, none⟩ x1).setCell ⟨g, 2, none⟩ x2).setCell ⟨g, 3, none⟩ x3).setCell ⟨g, 4, none⟩ x4) g t #[x0, x1, x2, x3, x4] :=
  ((((h.put 0 x0).put 1 x1).put 2 x2).put 3 x3).put 4 x4
theorem results_box {P : Program} {fn : Func} {p u : Tmp} {ty t : TypeId} {tmps : Array Value} {w : World} {g : Nat} {cs : Array Value} {d : TypeDesc} (h : fn.results = #[.cell p ty, .tmp u])
    (hp : tmps.getD p undef = .pointer (some ⟨g, 0, none⟩)) (hg : Blk w g t cs) (hu : P.underlying ty = some d) (hd : (match d with | .struct _ | .array _ _ => true | _ => false) = true) (hi : (P.info? ty).map (·.size) = some cs.size) :
    (results fn tmps).run P w = .ok (.tuple #[.agg cs, tmps.getD u undef]) w := by
  have hp' : tmps[p]?.getD undef = .pointer (some ⟨g, 0, none⟩) := by simpa using hp
  simp [results, h, hp', asAddr, run_loadVar_row w g t ty cs (0, 0) d hg hu hd hi]

/-! ### Numbers in a row of cells -/
def ints (l : List Int) : Array Value := (l.map (Value.int .i64)).toArray
theorem ints_get (l : List Int) (i : Nat) (h : i < l.length) : (ints l)[i]? = some (.int .i64 (l.getD i 0)) := by
  simp [ints, List.getD, List.getElem?_eq_getElem h]
theorem ints_set (l : List Int) (i : Nat) (u : Int) : (ints l).setIfInBounds i (.int .i64 u) = ints (l.set i u) := by
  simp [ints, List.map_set]

/-! ### Codecs: the cells of a Go value as a Lean value; what came in is opened by them -/
structure Codec (P : Program) (t : TypeId) (α : Type) where
  cells : α → List Value
  good : World → α → Prop
  opens : ∀ {H : Type} {enc : TypeId × Value → H} {w : World} {base : Nat} {held : Bool} {fuel : Nat} {cs : List Value} {x : DataW H × List MemPlace},
    DataW.trod enc P w base (fun _ => true) held fuel t cs = some x → ∃ a, cs = cells a ∧ good w a
  stays : ∀ {w w' : World} {a : α}, good w a → Below w.heap.size w w' → good w' a

def Codec.int {P : Program} {t : TypeId} (ht : P.underlying t = some (.int .i64)) : Codec P t Int where
  cells n := [.int .i64 n]
  good _ n := -9223372036854775808 ≤ n ∧ n ≤ 9223372036854775807
  opens h := by
    obtain ⟨n, rfl, _, hw⟩ := DataW.trod_int ht h
    refine ⟨n, rfl, ?_⟩
    have h1 : IntKind.i64.min = -9223372036854775808 := rfl
    have h2 : IntKind.i64.max = 9223372036854775807 := rfl
    simp only [Lit.wf, Bool.and_eq_true, decide_eq_true_eq] at hw
    omega
  stays h _ := h
def Codec.byte {P : Program} {t : TypeId} (ht : P.underlying t = some (.int .u8)) : Codec P t Int where
  cells n := [.int .u8 n]
  good _ n := 0 ≤ n ∧ n ≤ 255
  opens h := by
    obtain ⟨n, rfl, _, hw⟩ := DataW.trod_int ht h
    refine ⟨n, rfl, ?_⟩
    have h1 : IntKind.u8.min = 0 := rfl
    have h2 : IntKind.u8.max = 255 := rfl
    simp only [Lit.wf, Bool.and_eq_true, decide_eq_true_eq] at hw
    omega
  stays h _ := h
def Codec.bool {P : Program} {t : TypeId} (ht : P.underlying t = some .bool) : Codec P t Bool where
  cells b := [.bool b]
  good _ _ := True
  opens h := by
    obtain ⟨b, rfl, _⟩ := DataW.trod_bool ht h
    exact ⟨b, rfl, trivial⟩
  stays _ _ := trivial
def Codec.str {P : Program} {t : TypeId} (ht : P.underlying t = some .string) : Codec P t ByteArray where
  cells s := [.string s]
  good _ s := s.size ≤ maxLen
  opens h := by
    obtain ⟨s, rfl, _, hs⟩ := DataW.trod_string ht h
    exact ⟨s, rfl, hs⟩
  stays h _ := h

/-- A slice that came in: its address, its capacity, its elements. -/
structure SlV (α : Type) where
  A : Option Addr
  c : Nat
  xs : List α
/-- The cells of a row from an address on: element i's cell f. -/
def RowAt {α : Type} (w : World) (sz : Nat) (cells : α → List Value) (A : Option Addr) (xs : List α) : Prop :=
  0 < xs.length → ∃ b off, A = some ⟨b, off, none⟩ ∧ b < w.heap.size ∧ ∀ i (h : i < xs.length) f, f < sz → w.cell? ⟨b, off + i * sz + f, none⟩ = (cells xs[i])[f]?
theorem RowAt.stays {α : Type} {w w' : World} {sz : Nat} {cells : α → List Value} {A : Option Addr} {xs : List α} (h : RowAt w sz cells A xs) (hb : Below w.heap.size w w') : RowAt w' sz cells A xs := fun hn => by
  obtain ⟨b, off, rfl, hlt, hc⟩ := h hn
  exact ⟨b, off, rfl, Nat.lt_of_lt_of_le hlt hb.size, fun i hi f hf => (hb.cell (p := ⟨b, _, none⟩) hlt).trans (hc i hi f hf)⟩
theorem RowAt.fr {α : Type} {w w' : World} {S : Nat → Prop} {sz : Nat} {cells : α → List Value} {A : Option Addr} {xs : List α} (h : RowAt w sz cells A xs) (hb : Fr S w w') (hS : ∀ b off, A = some ⟨b, off, none⟩ → ¬ S b) : RowAt w' sz cells A xs := fun hn => by
  obtain ⟨b, off, rfl, hlt, hc⟩ := h hn
  exact ⟨b, off, rfl, Nat.lt_of_lt_of_le hlt hb.size, fun i hi f hf => (hb.cell (p := ⟨b, _, none⟩) hlt (hS _ _ rfl)).trans (hc i hi f hf)⟩

theorem Addr_add (b off n : Nat) : (⟨b, off, none⟩ : Addr).add n = ⟨b, off + n, none⟩ := by
  unfold Addr.add
  split
  · subst_vars; rfl
  · rfl
theorem cell_spot {w : World} {a : Addr} {v : Value} (h : w.cell? a = some v) : a.spot = none := by
  unfold World.cell? at h
  split at h
  · split at h
    · cases h
    · cases hs : a.spot
      · rfl
      · simp_all
  · cases h
theorem cell_lt {w : World} {a : Addr} {v : Value} (h : w.cell? a = some v) : a.block < w.heap.size := by
  rcases Nat.lt_or_ge a.block w.heap.size with hlt | hge
  · exact hlt
  · unfold World.cell? at h; rw [Array.getElem?_eq_none hge] at h; cases h

def Codec.slice {P : Program} {t e : TypeId} {α : Type} (ht : P.underlying t = some (.slice e)) (C : Codec P e α) (hpos : 0 < P.cellsOf e) : Codec P t (SlV α) where
  cells s := [.slice s.A s.xs.length s.c]
  good w s := RowAt w (P.cellsOf e) C.cells s.A s.xs ∧ (∀ x ∈ s.xs, C.good w x) ∧ s.xs.length ≤ s.c ∧ s.c ≤ maxLen
  opens {H enc w base held fuel cs x} h := by
    rcases Go.Deep.open_slice ht h with ⟨rfl, _⟩ | ⟨a, len, cap, m, n, D, Pl, rfl, _, hl, hm, hmm, _, hx⟩
    · exact ⟨⟨none, 0, []⟩, rfl, fun hn => by simp at hn, by simp, Nat.le_refl _, Nat.zero_le _⟩
    · simp only [if_true] at hmm
      subst hmm
      have each : ∀ i, i < len → ∃ y : α, w.cells? base (a.add (i * P.cellsOf e)) (P.cellsOf e) = some (C.cells y) ∧ C.good w y := fun i hi => by
        obtain ⟨cs', h1, h2⟩ := hx i (by omega)
        obtain ⟨y, rfl, hg⟩ := C.opens h2
        exact ⟨y, h1, hg⟩
      have key : ∀ k, k ≤ len → ∃ l : List α, l.length = k ∧ ∀ i (h : i < l.length), w.cells? base (a.add (i * P.cellsOf e)) (P.cellsOf e) = some (C.cells l[i]) ∧ C.good w l[i] := by
        intro k
        induction k with
        | zero => exact fun _ => ⟨[], rfl, fun i hi => by simp at hi⟩
        | succ k ih =>
          intro hk
          obtain ⟨l, hl1, hl2⟩ := ih (by omega)
          obtain ⟨y, hy1, hy2⟩ := each k (by omega)
          refine ⟨l ++ [y], by simp [hl1], fun i hi => ?_⟩
          by_cases hik : i < k
          · have := hl2 i (by omega)
            rw [List.getElem_append_left (by omega)]
            exact this
          · have : i = k := by simp [hl1] at hi; omega
            subst this
            rw [List.getElem_append_right (by omega)]
            simp only [hl1, Nat.sub_self, List.getElem_singleton]
            exact ⟨hy1, hy2⟩
      obtain ⟨l, hl1, hl2⟩ := key len (Nat.le_refl _)
      subst hl1
      refine ⟨⟨some a, _, l⟩, rfl, fun hn => ?_, fun x hx' => ?_, hl, hm⟩
      · obtain ⟨_, _, hc0⟩ := World.cells?_some (hl2 0 hn).1
        have h00 := hc0 0 hpos
        obtain ⟨_, hlen0, _⟩ := World.cells?_some (hl2 0 hn).1
        rw [List.getElem?_eq_getElem (by omega)] at h00
        rw [Nat.zero_mul] at h00
        have ha0 : (a.add 0).add 0 = a := by simp [Addr.add]
        rw [ha0] at h00
        have hs := cell_spot h00
        have hb := cell_lt h00
        obtain ⟨b, off, spot⟩ := a
        simp only at hs hb
        subst hs
        refine ⟨b, off, rfl, hb, fun i hi f hf => ?_⟩
        obtain ⟨_, _, hc⟩ := World.cells?_some (hl2 i hi).1
        have := hc f hf
        rw [Addr_add, Addr_add] at this
        exact this
      · obtain ⟨i, hi, rfl⟩ := List.getElem_of_mem hx'
        exact (hl2 i hi).2
  stays h hb := ⟨h.1.stays hb, fun x hx => C.stays (h.2.1 x hx) hb, h.2.2⟩

/-- A struct of one-cell fields, field by field. -/
theorem trod_fields {H : Type} {enc : TypeId × Value → H} {P : Program} {w : World} {base : Nat} {spare : Nat → Bool} {held : Bool} {t : TypeId} {fs : Array Field} {fuel : Nat} {cs : List Value} {x : DataW H × List MemPlace}
    (hs : P.underlying t = some (.struct fs)) (hone : Go.Deep.oneCellFields P fs = true) (hC : P.cellsOf t = fs.size) (h : DataW.trod enc P w base spare held fuel t cs = some x) :
    cs.length = fs.size ∧ ∃ n, ∀ (j : Nat) (f : Field), fs[j]? = some f → ∃ c y, cs[j]? = some c ∧ DataW.trod enc P w base spare held n f.type [c] = some y := by
  obtain ⟨xs, n, _, _, hlen, hyl, hf⟩ := DataW.trod_struct hs h
  refine ⟨by rw [hlen, hC], n, fun j f hj => ?_⟩
  obtain ⟨ho, hk⟩ := Go.Deep.hone_of hone j f hj
  have hjl : j < fs.size := (Array.getElem?_eq_some_iff.1 hj).1
  have hjc : j < cs.length := by omega
  have h1 := hf j f hj
  rw [ho, hk] at h1
  have h2 : (cs.drop j).take 1 = [cs[j]] := by
    rw [List.drop_eq_getElem_cons hjc]
    rfl
  rw [h2] at h1
  exact ⟨cs[j], xs[j], List.getElem?_eq_getElem hjc, by rw [h1]; exact List.getElem?_eq_getElem (by omega)⟩

/-! ### Arguments -/
section
variable {P : Program} {t : TypeId} {α : Type} {H : Type} {enc : TypeId × Value → H} {w : World} {base b0 : Nat} {held : Bool} {v : Value} {d : DataW H} {p : List MemPlace}
theorem arg_one (C : Codec P t α) (hv : v.cells.toList = [v]) (h : DataW.Trod enc P w b0 (fun _ => true) held t v d p) : ∃ a, C.cells a = [v] ∧ C.good w a := by
  obtain ⟨fuel, hf⟩ := h
  obtain ⟨a, ha, hg⟩ := C.opens hf
  exact ⟨a, by rw [← ha, hv], hg⟩
theorem arg_int {r : Reach} (ht : P.underlying t = some (.int .i64)) (hv : Value.okWide P w r base t v) (h : DataW.Trod enc P w b0 (fun _ => true) held t v d p) : ∃ n, v = .int .i64 n ∧ (Codec.int ht).good w n := by
  obtain ⟨n, rfl⟩ := okWide_int ht hv
  obtain ⟨a, ha, hg⟩ := arg_one (Codec.int ht) (by rfl) h
  simp only [Codec.int, List.cons.injEq, Value.int.injEq, true_and, and_true] at ha
  subst ha
  exact ⟨_, rfl, hg⟩
theorem arg_byte {r : Reach} (ht : P.underlying t = some (.int .u8)) (hv : Value.okWide P w r base t v) (h : DataW.Trod enc P w b0 (fun _ => true) held t v d p) : ∃ n, v = .int .u8 n ∧ (Codec.byte ht).good w n := by
  obtain ⟨n, rfl⟩ := okWide_int ht hv
  obtain ⟨a, ha, hg⟩ := arg_one (Codec.byte ht) (by rfl) h
  simp only [Codec.byte, List.cons.injEq, Value.int.injEq, true_and, and_true] at ha
  subst ha
  exact ⟨_, rfl, hg⟩
theorem arg_bool {r : Reach} (ht : P.underlying t = some .bool) (hv : Value.okWide P w r base t v) : ∃ b : Bool, v = .bool b := okWide_bool ht hv
theorem arg_str {r : Reach} (ht : P.underlying t = some .string) (hv : Value.okWide P w r base t v) (h : DataW.Trod enc P w b0 (fun _ => true) held t v d p) : ∃ s, v = .string s ∧ (Codec.str ht).good w s := by
  obtain ⟨n, rfl⟩ := okWide_string ht hv
  obtain ⟨a, ha, hg⟩ := arg_one (Codec.str ht) (by rfl) h
  simp only [Codec.str, List.cons.injEq, Value.string.injEq, and_true] at ha
  subst ha
  exact ⟨_, rfl, hg⟩
theorem arg_slice {r : Reach} {e : TypeId} (ht : P.underlying t = some (.slice e)) (C : Codec P e α) (hpos : 0 < P.cellsOf e) (hv : Value.okWide P w r base t v) (h : DataW.Trod enc P w b0 (fun _ => true) held t v d p) :
    ∃ s : SlV α, v = .slice s.A s.xs.length s.c ∧ (Codec.slice ht C hpos).good w s := by
  obtain ⟨a, n, c, rfl⟩ := okWide_slice ht hv
  obtain ⟨s, hs, hg⟩ := arg_one (Codec.slice ht C hpos) (by rfl) h
  simp only [Codec.slice, List.cons.injEq, and_true] at hs
  exact ⟨s, hs.symm, hg⟩
theorem arg_struct {r : Reach} {fs : Array Field} (ht : P.underlying t = some (.struct fs)) (C : Codec P t α) (hv : Value.okWide P w r base t v) (h : DataW.Trod enc P w b0 (fun _ => true) held t v d p) :
    ∃ a : α, v = .agg (C.cells a).toArray ∧ C.good w a := by
  obtain ⟨cs, rfl, _⟩ := okWide_struct ht hv
  obtain ⟨fuel, hf⟩ := h
  obtain ⟨a, ha, hg⟩ := C.opens hf
  refine ⟨a, ?_, hg⟩
  rw [← ha]
  simp [Value.cells]
end

/-! ### The frame of a law's row: it returns true; what was there is as it was -/
theorem trodAll_below {H : Type} {enc : TypeId × Value → H} {P : Program} (hl : laidOutB P = true) {W W' : World} (hb : Below W.heap.size W W') :
    ∀ {ts : List TypeId} {vs : List Value} {ds : List (DataW H)} {ps : List MemPlace}, ts.all (fun t => P.readableRec t && decide (t < P.types.size)) = true →
      DataW.TrodAll enc P W 0 (fun _ => true) true ts vs ds ps → (∀ x ∈ ps, x.block < W.heap.size) → DataW.TrodAll enc P W' 0 (fun b => decide (b < W.heap.size)) true ts vs ds ps := by
  intro ts
  induction ts with
  | nil =>
    intro vs ds ps _ h _
    obtain ⟨rfl, rfl, rfl⟩ := trodAll_nil h
    exact rfl
  | cons t ts ih =>
    intro vs ds ps hr h hlt
    obtain ⟨v, vs', d, ds', p, q, rfl, rfl, rfl, h1, h2⟩ := trodAll_cons h
    simp only [List.all_cons, Bool.and_eq_true, decide_eq_true_eq] at hr
    exact ⟨p, q, Below.trod hl hr.1.1 hr.1.2 h1 hb (fun x hx => hlt x (List.mem_append_left _ hx)), ih (by simpa using hr.2) h2 (fun x hx => hlt x (List.mem_append_right _ hx)), rfl⟩

theorem trodAll_len {H : Type} {enc : TypeId × Value → H} {P : Program} {W : World} {base : Nat} {sp : Nat → Bool} {held : Bool} : ∀ {ts : List TypeId} {vs : List Value} {ds : List (DataW H)} {ps : List MemPlace}, DataW.TrodAll enc P W base sp held ts vs ds ps → ds.length = ts.length := by
  intro ts
  induction ts with
  | nil => intro vs ds ps h; obtain ⟨_, rfl, _⟩ := trodAll_nil h; rfl
  | cons t ts ih =>
    intro vs ds ps h
    obtain ⟨_, _, _, _, _, _, _, rfl, _, _, h2⟩ := trodAll_cons h
    simp [ih h2]
theorem trodAll_length {H : Type} {enc : TypeId × Value → H} {P : Program} {W : World} {base : Nat} {sp : Nat → Bool} {held : Bool} {ts : Array TypeId} {vs : List Value} {ds : List (DataW H)} {ps : List MemPlace} (h : DataW.TrodAll enc P W base sp held ts.toList vs ds ps) : ds.length = ts.size := by
  rw [trodAll_len h]; simp

theorem law_post {H : Type} {enc : TypeId × Value → H} {P : Program} {fn : Func} {s : ChangeSpec} {W W' : World} {args : Array Value} {ds gs : List (DataW H)} {before p q : List MemPlace} {tb : TypeId}
    (hl : laidOutB P = true) (hts : fn.params.toList.all (fun t => P.readableRec t && decide (t < P.types.size)) = true) (hres : fn.resultTypes = #[tb]) (htb : P.underlying tb = some .bool) (hvars : s.vars = [])
    (hW : DataW.Whole enc P fn.params.toList s.vars false W args.toList ds gs before) (hspec : s.fn H (ds ++ gs) = { results := [.lit (.bool true)], args := ds, vars := [] })
    (hA : DataW.TrodAll enc P W 0 (fun _ => true) true fn.params.toList args.toList ds p) (hp : before = p ++ q) (hb : Below W.heap.size W W') :
    s.post enc P fn false true false false W args (.bool true) W' := by
  have hlt : ∀ x ∈ p, x.block < W.heap.size := fun x hx => hW.lt x (by rw [hp]; exact List.mem_append_left _ hx)
  refine ⟨ds, gs, before, [], p, [], hW, ?_, ?_, ?_, hb.frame _, fun h => by cases h⟩
  · rw [hspec, hres]
    exact trodAll_mk1 (shut_bool htb true)
  · rw [hspec]
    exact trodAll_below hl hb hts hA hlt
  · rw [hspec, hvars]
    rfl

/-- What a law's walk is asked: at every world and all arguments that can be read. -/
def LawWalk (P : Program) (F : FuncId) (fn : Func) (X : World → Prop) : Prop :=
  ∀ (W : World) (base : Nat) (args : Array Value) (H : Type) (enc : TypeId × Value → H) (ds : List (DataW H)) (p : List MemPlace),
    (∀ (j : Nat) t v, fn.params[j]? = some t → args[j]? = some v → Value.okWide P W .any base t v) → DataW.TrodAll enc P W 0 (fun _ => true) true fn.params.toList args.toList ds p → X W →
    Calls P F args W fun e W' => e = .returned (.bool true) ∧ Below W.heap.size W W'

theorem law_lifted {C : Checked} {F : FuncId} {fn : Func} {s : ChangeSpec} {os : Os} {H : Type} {enc : TypeId × Value → H} {tb : TypeId} (conds : List PathCond)
    (own : ownKnob C.prog.godebug = none) (started : os.Started) (noInit : C.prog.inits.idxOf? F = none) (hfn : C.prog.funcs[F]? = some fn)
    (hl : laidOutB C.prog = true) (hts : fn.params.toList.all (fun t => C.prog.readableRec t && decide (t < C.prog.types.size)) = true) (hres : fn.resultTypes = #[tb]) (htb : C.prog.underlying tb = some .bool) (hvars : s.vars = [])
    (hspec : ∀ ds : List (DataW H), ds.length = fn.params.size → s.fn H ds = { results := [.lit (.bool true)], args := ds, vars := [] })
    (witness : ∃ (w : World) (tape : Tape) (i : Input), w.os = os ∧ (w.forCall tape i).Shaped C.prog ∧ i.vars = [] ∧ Input.okWide C.prog (w.forCall tape i) .any w.heap.size F i ∧
      s.pre6 enc C.prog fn conds false (w.forCall tape i).memory i.args ∧ ({} : Assume).holds C.prog (lone (Frame.enter C.prog F i.args .normal) [] (w.forCall tape i)))
    (walk : LawWalk C.prog F fn (fun _ => True)) :
    ReturnsInHanded {} C os F .any (s.pre6 enc C.prog fn conds false) (s.post enc C.prog fn false true false false) := by
  refine returnsInHanded_of_change (C := C) own started noInit hfn witness ?_
  intro W base args ds gs before hval hW _ _
  have hW' := hW
  obtain ⟨p, q, hA, hV, hpq, _, _⟩ := hW
  rw [hvars] at hV
  obtain ⟨rfl, rfl⟩ := trodVars_none hV
  have hlen : ds.length = fn.params.size := trodAll_length hA
  refine (walk W base args H enc ds p hval hA trivial).mono fun e W' ⟨he, hb⟩ => ?_
  exact ⟨_, he, law_post hl hts hres htb hvars hW' (by rw [List.append_nil]; exact hspec ds hlen) hA hpq hb⟩
end Go.Proofs.YtmgiecoeeidgoaaGreatDoor
