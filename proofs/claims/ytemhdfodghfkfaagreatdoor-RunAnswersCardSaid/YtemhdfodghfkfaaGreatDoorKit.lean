/-
  A LIBRARY OF THIS SEAT's OWN, over whatever program: how arguments that came in are opened (codecs), frames of worlds, and the frame of a law's row. It proves no statement by itself. CONDITIONS: none.
  CONTRACTS of store.Key, entry.Seq, entry.Check and the codec of api.Entry: what they compute, over this seat's program. CONDITIONS: none.
  CLOSED FACTS of this seat's program, and the codec of api.Entry. CONDITIONS: none.
  CODECS of the arguments' types over this seat's program. CONDITIONS: none.
  A LIBRARY OF THIS SEAT's OWN, over whatever program: slices of the call's own ('Ow'), wherever they begin in their block. It proves no statement by itself. CONDITIONS: none.
  A LAW of this seat's own on copy. CONDITIONS: none.
  TWO SLICES OF THE CALL's OWN, of unlike elements, do not share a block. It proves no statement by itself. CONDITIONS: none.
  A LAW of this seat's own on append where there is room: in place. CONDITIONS: none.
  A REGION of a code, by its number. CONDITIONS: none.
-/
import Derived.Test.YtemhdfodghfkfaaGreatDoorRows
import Derived.WalkKit
import Derived.WalkSpells
import Derived.WalkLawsBesides
import Derived.ProofKit
import Derived.Deep.Slices
import Derived.Deep.Fields
import Derived.Laws.OwnMore
import Derived.Deep.AppendLies
import Derived.Deep.AppendSrc
import Derived.Deep.MidRow
import Derived.Maps.AppendAt
namespace Go.Proofs.YtemhdfodghfkfaaGreatDoor
open Go.RowKit
open Go.ChangeShapes Go.WideShapes Go.ChangeAt

theorem hid {p : Prop} (h : p) : Hid p := h

theorem bcell {W w1 : World} (hb : Below W.heap.size W w1) : (∀ b o, b < W.heap.size → w1.cell? ⟨b, o, none⟩ = W.cell? ⟨b, o, none⟩) ∧ (∀ b o, b < W.heap.size → w1.frozen? ⟨b, o, none⟩ = W.frozen? ⟨b, o, none⟩) :=
  ⟨fun b o h => hb.cell (p := ⟨b, o, none⟩) h, fun b o h => hb.frozen (p := ⟨b, o, none⟩) h⟩
theorem Below.manyDrew {B : Nat} {a w : World} (h : Below B a w) (n : Nat) : Below B a (w.drewN n) := ⟨h.os, h.tape, h.output, h.size, h.block⟩
theorem Below.step {B : Nat} {a w w' : World} (h : Below B a w) (hb : Below w.heap.size w w') (hB : B ≤ w.heap.size) : Below B a w' := h.trans (hb.mono hB)

/-! ### Frames: the blocks outside S that were there are as they were -/
structure Fr (S : Nat → Prop) (w w' : World) : Prop where
  os : w'.os = w.os
  tape : w'.tape = w.tape
  output : w'.output = w.output
  size : w.heap.size ≤ w'.heap.size
  block : ∀ k, k < w.heap.size → ¬ S k → w'.heap[k]? = w.heap[k]?
section
variable {S S' : Nat → Prop} {a b c w w' : World}
theorem Fr.refl (S : Nat → Prop) (w : World) : Fr S w w := ⟨rfl, rfl, rfl, Nat.le_refl _, fun _ _ _ => rfl⟩
theorem Fr.trans (h : Fr S a b) (k : Fr S' b c) (hS : ∀ i, S' i → S i ∨ a.heap.size ≤ i) : Fr S a c :=
  ⟨k.os.trans h.os, k.tape.trans h.tape, k.output.trans h.output, Nat.le_trans h.size k.size, fun i hi hn =>
    (k.block i (Nat.lt_of_lt_of_le hi h.size) (fun hs => (hS i hs).elim hn (fun hge => by omega))).trans (h.block i hi hn)⟩
theorem Fr.mono (h : Fr S a b) (hS : ∀ i, i < a.heap.size → S i → S' i) : Fr S' a b := ⟨h.os, h.tape, h.output, h.size, fun i hi hn => h.block i hi (fun hs => hn (hS i hi hs))⟩
theorem Fr.drew (h : Fr S a w) : Fr S a w.drew := ⟨h.os, h.tape, h.output, h.size, h.block⟩
theorem Fr.drewN (h : Fr S a w) (n : Nat) : Fr S a (w.drewN n) := ⟨h.os, h.tape, h.output, h.size, h.block⟩
theorem Fr.alloc (h : Fr S a w) (o : Obj) : Fr S a (w.alloc o) :=
  h.trans (S' := fun _ => False) ⟨rfl, rfl, rfl, by simp, fun k hk _ => Below.heap_alloc _ _ _ hk⟩ (fun _ h => h.elim)
theorem Fr.setCell (h : Fr S a w) {p : Addr} (hp : S p.block ∨ a.heap.size ≤ p.block) (u : Value) : Fr S a (w.setCell p u) :=
  h.trans (S' := fun i => i = p.block) ⟨rfl, rfl, rfl, by simp, fun k _ hn => Below.heap_setCell _ _ _ _ hn⟩ (by rintro i rfl; exact hp)
theorem Fr.grown (h : Fr S a w) {row : Option Nat} (hg : w.grownBy w' row) (hr : ∀ k, row = some k → S k ∨ a.heap.size ≤ k) : Fr S a w' :=
  h.trans (S' := fun i => some i = row) ⟨hg.os, hg.tape, hg.output, hg.size, fun k hk hn => hg.block k hk hn⟩ (fun i hi => hr i hi.symm)
theorem Fr.of_below {B : Nat} (h : Below B a b) (hS : ∀ i, i < a.heap.size → B ≤ i → S i) : Fr S a b :=
  ⟨h.os, h.tape, h.output, h.size, fun i hi hn => h.block i (by rcases Nat.lt_or_ge i B with hlt | hge; exact hlt; exact absurd (hS i hi hge) hn)⟩
theorem Fr.ofB (h : Below a.heap.size a b) : Fr S a b := Fr.of_below h (fun _ h1 h2 => by omega)
theorem Fr.below (h : Fr S a b) {B : Nat} (hB : B ≤ a.heap.size) (hS : ∀ i, i < B → ¬ S i) : Below B a b :=
  ⟨h.os, h.tape, h.output, h.size, fun i hi => h.block i (by omega) (hS i hi)⟩
theorem Fr.cell (h : Fr S w w') {p : Addr} (hp : p.block < w.heap.size) (hn : ¬ S p.block) : w'.cell? p = w.cell? p := World.cell?_of_block (w := w) (h.block p.block hp hn)
theorem Fr.frozen (h : Fr S w w') {p : Addr} (hp : p.block < w.heap.size) (hn : ¬ S p.block) : w'.frozen? p = w.frozen? p := World.frozen?_of_block (w := w) (h.block p.block hp hn)
end

/-! ### A block that is known whole -/
def Blk (w : World) (g : Nat) (t : TypeId) (cs : Array Value) : Prop := w.heap[g]? = some (.cells cs t (0, 0))
section
variable {S : Nat → Prop} {w w' : World} {g : Nat} {t : TypeId} {cs : Array Value}
theorem Blk.lt (h : Blk w g t cs) : g < w.heap.size := by
  rcases Nat.lt_or_ge g w.heap.size with hlt | hge
  · exact hlt
  · unfold Blk at h; rw [Array.getElem?_eq_none hge] at h; cases h
theorem Blk.cell (h : Blk w g t cs) (i : Nat) : w.cell? ⟨g, i, none⟩ = cs[i]? := by
  unfold Blk at h
  simp [World.cell?, h]
theorem Blk.frozen (h : Blk w g t cs) (i : Nat) : w.frozen? ⟨g, i, none⟩ = false := by
  unfold Blk at h
  simp [World.frozen?, h]
theorem Blk.new (w : World) (t : TypeId) (cs : Array Value) : Blk (w.alloc (.cells cs t)) w.heap.size t cs := by
  show (w.heap.push _)[w.heap.size]? = _
  simp
theorem Blk.new_at {w : World} {t : TypeId} {cs : Array Value} {g : Nat} (h : g = w.heap.size) : Blk (w.alloc (.cells cs t)) g t cs := by subst h; exact Blk.new w t cs
theorem Blk.drew (h : Blk w g t cs) : Blk w.drew g t cs := h
theorem Blk.drewN (h : Blk w g t cs) (n : Nat) : Blk (w.drewN n) g t cs := h
theorem Blk.alloc (h : Blk w g t cs) (o : Obj) : Blk (w.alloc o) g t cs := (Below.heap_alloc w o g h.lt).trans h
theorem Blk.put (h : Blk w g t cs) (i : Nat) (u : Value) : Blk (w.setCell ⟨g, i, none⟩ u) g t (cs.setIfInBounds i u) := by
  unfold Blk at h ⊢
  simp [World.setCell, Array.getElem?_modify, h]
theorem Blk.far (h : Blk w g t cs) {p : Addr} (hp : g ≠ p.block) (u : Value) : Blk (w.setCell p u) g t cs := (Below.heap_setCell w p u g hp).trans h
theorem Blk.fr (h : Blk w g t cs) (hf : Fr S w w') (hn : ¬ S g) : Blk w' g t cs := (hf.block g h.lt hn).trans h
theorem Blk.below {B : Nat} (h : Blk w g t cs) (hb : Below B w w') (hg : g < B) : Blk w' g t cs := (hb.block g hg).trans h
theorem Blk.belowS (h : Blk w g t cs) (hb : Below w.heap.size w w') : Blk w' g t cs := h.below hb h.lt
theorem Blk.eq_ (h : Blk w g t cs) {t' : TypeId} {cs' : Array Value} (h' : Blk w g t' cs') : cs = cs' ∧ t = t' := by
  unfold Blk at h h'
  rw [h] at h'
  injection h' with h'
  injection h' with h1 h2
  exact ⟨h1, h2⟩
end

/-! ### A struct of five cells in a block of its own: stored whole, handed back -/
theorem Blk.put5 {w : World} {g : Nat} {t : TypeId} {a b c d e : Value} (h : Blk w g t #[a, b, c, d, e]) (x0 x1 x2 x3 x4 : Value) :
    Blk (((((w.setCell ⟨g, 0, none⟩ x0).setCell ⟨g, 1, none⟩ x1).setCell ⟨g, 2, none⟩ x2).setCell ⟨g, 3, none⟩ x3).setCell ⟨g, 4, none⟩ x4) g t #[x0, x1, x2, x3, x4] :=
  ((((h.put 0 x0).put 1 x1).put 2 x2).put 3 x3).put 4 x4
theorem results_box {P : Program} {fn : Func} {p u : Tmp} {ty t : TypeId} {tmps : Array Value} {w : World} {g : Nat} {cs : Array Value} {d : TypeDesc} (h : fn.results = #[.cell p ty, .tmp u])
    (hp : tmps.getD p undef = .pointer (some ⟨g, 0, none⟩)) (hg : Blk w g t cs) (hu : P.underlying ty = some d) (hd : (match d with | .struct _ | .array _ _ => true | _ => false) = true) (hi : (P.info? ty).map (·.size) = some cs.size) :
    (results fn tmps).run P w = .ok (.tuple #[.agg cs, tmps.getD u undef]) w := by
  have hp' : tmps[p]?.getD undef = .pointer (some ⟨g, 0, none⟩) := by simpa using hp
  simp [results, h, hp', asAddr, run_loadVar_row w g t ty cs (0, 0) d hg hu hd hi]

/-! ### Numbers in a row of cells -/
def ints (l : List Int) : Array Value := (l.map (Value.int .i64)).toArray
theorem ints_get (l : List Int) (i : Nat) (h : i < l.length) : (ints l)[i]? = some (.int .i64 (l.getD i 0)) := by
  simp [ints, List.getD, List.getElem?_eq_getElem h]
theorem ints_set (l : List Int) (i : Nat) (u : Int) : (ints l).setIfInBounds i (.int .i64 u) = ints (l.set i u) := by
  simp [ints, List.map_set]

/-! ### Codecs: the cells of a Go value as a Lean value; what came in is opened by them -/
structure Codec (P : Program) (t : TypeId) (α : Type) where
  cells : α → List Value
  good : World → α → Prop
  opens : ∀ {H : Type} {enc : TypeId × Value → H} {w : World} {base : Nat} {held : Bool} {fuel : Nat} {cs : List Value} {x : DataW H × List MemPlace},
    DataW.trod enc P w base (fun _ => true) held fuel t cs = some x → ∃ a, cs = cells a ∧ good w a
  stays : ∀ {w w' : World} {a : α}, good w a → Below w.heap.size w w' → good w' a

def Codec.int {P : Program} {t : TypeId} (ht : P.underlying t = some (.int .i64)) : Codec P t Int where
  cells n := [.int .i64 n]
  good _ n := -9223372036854775808 ≤ n ∧ n ≤ 9223372036854775807
  opens h := by
    obtain ⟨n, rfl, _, hw⟩ := DataW.trod_int ht h
    refine ⟨n, rfl, ?_⟩
    have h1 : IntKind.i64.min = -9223372036854775808 := rfl
    have h2 : IntKind.i64.max = 9223372036854775807 := rfl
    simp only [Lit.wf, Bool.and_eq_true, decide_eq_true_eq] at hw
    omega
  stays h _ := h
def Codec.byte {P : Program} {t : TypeId} (ht : P.underlying t = some (.int .u8)) : Codec P t Int where
  cells n := [.int .u8 n]
  good _ n := 0 ≤ n ∧ n ≤ 255
  opens h := by
    obtain ⟨n, rfl, _, hw⟩ := DataW.trod_int ht h
    refine ⟨n, rfl, ?_⟩
    have h1 : IntKind.u8.min = 0 := rfl
    have h2 : IntKind.u8.max = 255 := rfl
    simp only [Lit.wf, Bool.and_eq_true, decide_eq_true_eq] at hw
    omega
  stays h _ := h
def Codec.bool {P : Program} {t : TypeId} (ht : P.underlying t = some .bool) : Codec P t Bool where
  cells b := [.bool b]
  good _ _ := True
  opens h := by
    obtain ⟨b, rfl, _⟩ := DataW.trod_bool ht h
    exact ⟨b, rfl, trivial⟩
  stays _ _ := trivial
def Codec.str {P : Program} {t : TypeId} (ht : P.underlying t = some .string) : Codec P t ByteArray where
  cells s := [.string s]
  good _ s := s.size ≤ maxLen
  opens h := by
    obtain ⟨s, rfl, _, hs⟩ := DataW.trod_string ht h
    exact ⟨s, rfl, hs⟩
  stays h _ := h

/-- A slice that came in: its address, its capacity, its elements. -/
structure SlV (α : Type) where
  A : Option Addr
  c : Nat
  xs : List α
/-- The cells of a row from an address on: element i's cell f. -/
def RowAt {α : Type} (w : World) (sz : Nat) (cells : α → List Value) (A : Option Addr) (xs : List α) : Prop :=
  0 < xs.length → ∃ b off, A = some ⟨b, off, none⟩ ∧ b < w.heap.size ∧ ∀ i (h : i < xs.length) f, f < sz → w.cell? ⟨b, off + i * sz + f, none⟩ = (cells xs[i])[f]?
theorem RowAt.stays {α : Type} {w w' : World} {sz : Nat} {cells : α → List Value} {A : Option Addr} {xs : List α} (h : RowAt w sz cells A xs) (hb : Below w.heap.size w w') : RowAt w' sz cells A xs := fun hn => by
  obtain ⟨b, off, rfl, hlt, hc⟩ := h hn
  exact ⟨b, off, rfl, Nat.lt_of_lt_of_le hlt hb.size, fun i hi f hf => (hb.cell (p := ⟨b, _, none⟩) hlt).trans (hc i hi f hf)⟩
theorem RowAt.fr {α : Type} {w w' : World} {S : Nat → Prop} {sz : Nat} {cells : α → List Value} {A : Option Addr} {xs : List α} (h : RowAt w sz cells A xs) (hb : Fr S w w') (hS : ∀ b off, A = some ⟨b, off, none⟩ → ¬ S b) : RowAt w' sz cells A xs := fun hn => by
  obtain ⟨b, off, rfl, hlt, hc⟩ := h hn
  exact ⟨b, off, rfl, Nat.lt_of_lt_of_le hlt hb.size, fun i hi f hf => (hb.cell (p := ⟨b, _, none⟩) hlt (hS _ _ rfl)).trans (hc i hi f hf)⟩

theorem Addr_add (b off n : Nat) : (⟨b, off, none⟩ : Addr).add n = ⟨b, off + n, none⟩ := by
  unfold Addr.add
  split
  · subst_vars; rfl
  · rfl
theorem cell_spot {w : World} {a : Addr} {v : Value} (h : w.cell? a = some v) : a.spot = none := by
  unfold World.cell? at h
  split at h
  · split at h
    · cases h
    · cases hs : a.spot
      · rfl
      · simp_all
  · cases h
theorem cell_lt {w : World} {a : Addr} {v : Value} (h : w.cell? a = some v) : a.block < w.heap.size := by
  rcases Nat.lt_or_ge a.block w.heap.size with hlt | hge
  · exact hlt
  · unfold World.cell? at h; rw [Array.getElem?_eq_none hge] at h; cases h

def Codec.slice {P : Program} {t e : TypeId} {α : Type} (ht : P.underlying t = some (.slice e)) (C : Codec P e α) (hpos : 0 < P.cellsOf e) : Codec P t (SlV α) where
  cells s := [.slice s.A s.xs.length s.c]
  good w s := RowAt w (P.cellsOf e) C.cells s.A s.xs ∧ (∀ x ∈ s.xs, C.good w x) ∧ s.xs.length ≤ s.c ∧ s.c ≤ maxLen
  opens {H enc w base held fuel cs x} h := by
    rcases Go.Deep.open_slice ht h with ⟨rfl, _⟩ | ⟨a, len, cap, m, n, D, Pl, rfl, _, hl, hm, hmm, _, hx⟩
    · exact ⟨⟨none, 0, []⟩, rfl, fun hn => by simp at hn, by simp, Nat.le_refl _, Nat.zero_le _⟩
    · simp only [if_true] at hmm
      subst hmm
      have each : ∀ i, i < len → ∃ y : α, w.cells? base (a.add (i * P.cellsOf e)) (P.cellsOf e) = some (C.cells y) ∧ C.good w y := fun i hi => by
        obtain ⟨cs', h1, h2⟩ := hx i (by omega)
        obtain ⟨y, rfl, hg⟩ := C.opens h2
        exact ⟨y, h1, hg⟩
      have key : ∀ k, k ≤ len → ∃ l : List α, l.length = k ∧ ∀ i (h : i < l.length), w.cells? base (a.add (i * P.cellsOf e)) (P.cellsOf e) = some (C.cells l[i]) ∧ C.good w l[i] := by
        intro k
        induction k with
        | zero => exact fun _ => ⟨[], rfl, fun i hi => by simp at hi⟩
        | succ k ih =>
          intro hk
          obtain ⟨l, hl1, hl2⟩ := ih (by omega)
          obtain ⟨y, hy1, hy2⟩ := each k (by omega)
          refine ⟨l ++ [y], by simp [hl1], fun i hi => ?_⟩
          by_cases hik : i < k
          · have := hl2 i (by omega)
            rw [List.getElem_append_left (by omega)]
            exact this
          · have : i = k := by simp [hl1] at hi; omega
            subst this
            rw [List.getElem_append_right (by omega)]
            simp only [hl1, Nat.sub_self, List.getElem_singleton]
            exact ⟨hy1, hy2⟩
      obtain ⟨l, hl1, hl2⟩ := key len (Nat.le_refl _)
      subst hl1
      refine ⟨⟨some a, _, l⟩, rfl, fun hn => ?_, fun x hx' => ?_, hl, hm⟩
      · obtain ⟨_, _, hc0⟩ := World.cells?_some (hl2 0 hn).1
        have h00 := hc0 0 hpos
        obtain ⟨_, hlen0, _⟩ := World.cells?_some (hl2 0 hn).1
        rw [List.getElem?_eq_getElem (by omega)] at h00
        rw [Nat.zero_mul] at h00
        have ha0 : (a.add 0).add 0 = a := by simp [Addr.add]
        rw [ha0] at h00
        have hs := cell_spot h00
        have hb := cell_lt h00
        obtain ⟨b, off, spot⟩ := a
        simp only at hs hb
        subst hs
        refine ⟨b, off, rfl, hb, fun i hi f hf => ?_⟩
        obtain ⟨_, _, hc⟩ := World.cells?_some (hl2 i hi).1
        have := hc f hf
        rw [Addr_add, Addr_add] at this
        exact this
      · obtain ⟨i, hi, rfl⟩ := List.getElem_of_mem hx'
        exact (hl2 i hi).2
  stays h hb := ⟨h.1.stays hb, fun x hx => C.stays (h.2.1 x hx) hb, h.2.2⟩

/-- A struct of one-cell fields, field by field. -/
theorem trod_fields {H : Type} {enc : TypeId × Value → H} {P : Program} {w : World} {base : Nat} {spare : Nat → Bool} {held : Bool} {t : TypeId} {fs : Array Field} {fuel : Nat} {cs : List Value} {x : DataW H × List MemPlace}
    (hs : P.underlying t = some (.struct fs)) (hone : Go.Deep.oneCellFields P fs = true) (hC : P.cellsOf t = fs.size) (h : DataW.trod enc P w base spare held fuel t cs = some x) :
    cs.length = fs.size ∧ ∃ n, ∀ (j : Nat) (f : Field), fs[j]? = some f → ∃ c y, cs[j]? = some c ∧ DataW.trod enc P w base spare held n f.type [c] = some y := by
  obtain ⟨xs, n, _, _, hlen, hyl, hf⟩ := DataW.trod_struct hs h
  refine ⟨by rw [hlen, hC], n, fun j f hj => ?_⟩
  obtain ⟨ho, hk⟩ := Go.Deep.hone_of hone j f hj
  have hjl : j < fs.size := (Array.getElem?_eq_some_iff.1 hj).1
  have hjc : j < cs.length := by omega
  have h1 := hf j f hj
  rw [ho, hk] at h1
  have h2 : (cs.drop j).take 1 = [cs[j]] := by
    rw [List.drop_eq_getElem_cons hjc]
    rfl
  rw [h2] at h1
  exact ⟨cs[j], xs[j], List.getElem?_eq_getElem hjc, by rw [h1]; exact List.getElem?_eq_getElem (by omega)⟩

/-! ### Arguments -/
section
variable {P : Program} {t : TypeId} {α : Type} {H : Type} {enc : TypeId × Value → H} {w : World} {base b0 : Nat} {held : Bool} {v : Value} {d : DataW H} {p : List MemPlace}
theorem arg_one (C : Codec P t α) (hv : v.cells.toList = [v]) (h : DataW.Trod enc P w b0 (fun _ => true) held t v d p) : ∃ a, C.cells a = [v] ∧ C.good w a := by
  obtain ⟨fuel, hf⟩ := h
  obtain ⟨a, ha, hg⟩ := C.opens hf
  exact ⟨a, by rw [← ha, hv], hg⟩
theorem arg_int {r : Reach} (ht : P.underlying t = some (.int .i64)) (hv : Value.okWide P w r base t v) (h : DataW.Trod enc P w b0 (fun _ => true) held t v d p) : ∃ n, v = .int .i64 n ∧ (Codec.int ht).good w n := by
  obtain ⟨n, rfl⟩ := okWide_int ht hv
  obtain ⟨a, ha, hg⟩ := arg_one (Codec.int ht) (by rfl) h
  simp only [Codec.int, List.cons.injEq, Value.int.injEq, true_and, and_true] at ha
  subst ha
  exact ⟨_, rfl, hg⟩
theorem arg_byte {r : Reach} (ht : P.underlying t = some (.int .u8)) (hv : Value.okWide P w r base t v) (h : DataW.Trod enc P w b0 (fun _ => true) held t v d p) : ∃ n, v = .int .u8 n ∧ (Codec.byte ht).good w n := by
  obtain ⟨n, rfl⟩ := okWide_int ht hv
  obtain ⟨a, ha, hg⟩ := arg_one (Codec.byte ht) (by rfl) h
  simp only [Codec.byte, List.cons.injEq, Value.int.injEq, true_and, and_true] at ha
  subst ha
  exact ⟨_, rfl, hg⟩
theorem arg_bool {r : Reach} (ht : P.underlying t = some .bool) (hv : Value.okWide P w r base t v) : ∃ b : Bool, v = .bool b := okWide_bool ht hv
theorem arg_str {r : Reach} (ht : P.underlying t = some .string) (hv : Value.okWide P w r base t v) (h : DataW.Trod enc P w b0 (fun _ => true) held t v d p) : ∃ s, v = .string s ∧ (Codec.str ht).good w s := by
  obtain ⟨n, rfl⟩ := okWide_string ht hv
  obtain ⟨a, ha, hg⟩ := arg_one (Codec.str ht) (by rfl) h
  simp only [Codec.str, List.cons.injEq, Value.string.injEq, and_true] at ha
  subst ha
  exact ⟨_, rfl, hg⟩
theorem arg_slice {r : Reach} {e : TypeId} (ht : P.underlying t = some (.slice e)) (C : Codec P e α) (hpos : 0 < P.cellsOf e) (hv : Value.okWide P w r base t v) (h : DataW.Trod enc P w b0 (fun _ => true) held t v d p) :
    ∃ s : SlV α, v = .slice s.A s.xs.length s.c ∧ (Codec.slice ht C hpos).good w s := by
  obtain ⟨a, n, c, rfl⟩ := okWide_slice ht hv
  obtain ⟨s, hs, hg⟩ := arg_one (Codec.slice ht C hpos) (by rfl) h
  simp only [Codec.slice, List.cons.injEq, and_true] at hs
  exact ⟨s, hs.symm, hg⟩
theorem arg_struct {r : Reach} {fs : Array Field} (ht : P.underlying t = some (.struct fs)) (C : Codec P t α) (hv : Value.okWide P w r base t v) (h : DataW.Trod enc P w b0 (fun _ => true) held t v d p) :
    ∃ a : α, v = .agg (C.cells a).toArray ∧ C.good w a := by
  obtain ⟨cs, rfl, _⟩ := okWide_struct ht hv
  obtain ⟨fuel, hf⟩ := h
  obtain ⟨a, ha, hg⟩ := C.opens hf
  refine ⟨a, ?_, hg⟩
  rw [← ha]
  simp [Value.cells]
end

/-! ### The frame of a law's row: it returns true; what was there is as it was -/
theorem trodAll_below {H : Type} {enc : TypeId × Value → H} {P : Program} (hl : laidOutB P = true) {W W' : World} (hb : Below W.heap.size W W') :
    ∀ {ts : List TypeId} {vs : List Value} {ds : List (DataW H)} {ps : List MemPlace}, ts.all (fun t => P.readableRec t && decide (t < P.types.size)) = true →
      DataW.TrodAll enc P W 0 (fun _ => true) true ts vs ds ps → (∀ x ∈ ps, x.block < W.heap.size) → DataW.TrodAll enc P W' 0 (fun b => decide (b < W.heap.size)) true ts vs ds ps := by
  intro ts
  induction ts with
  | nil =>
    intro vs ds ps _ h _
    obtain ⟨rfl, rfl, rfl⟩ := trodAll_nil h
    exact rfl
  | cons t ts ih =>
    intro vs ds ps hr h hlt
    obtain ⟨v, vs', d, ds', p, q, rfl, rfl, rfl, h1, h2⟩ := trodAll_cons h
    simp only [List.all_cons, Bool.and_eq_true, decide_eq_true_eq] at hr
    exact ⟨p, q, Below.trod hl hr.1.1 hr.1.2 h1 hb (fun x hx => hlt x (List.mem_append_left _ hx)), ih (by simpa using hr.2) h2 (fun x hx => hlt x (List.mem_append_right _ hx)), rfl⟩

theorem trodAll_len {H : Type} {enc : TypeId × Value → H} {P : Program} {W : World} {base : Nat} {sp : Nat → Bool} {held : Bool} : ∀ {ts : List TypeId} {vs : List Value} {ds : List (DataW H)} {ps : List MemPlace}, DataW.TrodAll enc P W base sp held ts vs ds ps → ds.length = ts.length := by
  intro ts
  induction ts with
  | nil => intro vs ds ps h; obtain ⟨_, rfl, _⟩ := trodAll_nil h; rfl
  | cons t ts ih =>
    intro vs ds ps h
    obtain ⟨_, _, _, _, _, _, _, rfl, _, _, h2⟩ := trodAll_cons h
    simp [ih h2]
theorem trodAll_length {H : Type} {enc : TypeId × Value → H} {P : Program} {W : World} {base : Nat} {sp : Nat → Bool} {held : Bool} {ts : Array TypeId} {vs : List Value} {ds : List (DataW H)} {ps : List MemPlace} (h : DataW.TrodAll enc P W base sp held ts.toList vs ds ps) : ds.length = ts.size := by
  rw [trodAll_len h]; simp

theorem law_post {H : Type} {enc : TypeId × Value → H} {P : Program} {fn : Func} {s : ChangeSpec} {W W' : World} {args : Array Value} {ds gs : List (DataW H)} {before p q : List MemPlace} {tb : TypeId}
    (hl : laidOutB P = true) (hts : fn.params.toList.all (fun t => P.readableRec t && decide (t < P.types.size)) = true) (hres : fn.resultTypes = #[tb]) (htb : P.underlying tb = some .bool) (hvars : s.vars = [])
    (hW : DataW.Whole enc P fn.params.toList s.vars false W args.toList ds gs before) (hspec : s.fn H (ds ++ gs) = { results := [.lit (.bool true)], args := ds, vars := [] })
    (hA : DataW.TrodAll enc P W 0 (fun _ => true) true fn.params.toList args.toList ds p) (hp : before = p ++ q) (hb : Below W.heap.size W W') :
    s.post enc P fn false true false false W args (.bool true) W' := by
  have hlt : ∀ x ∈ p, x.block < W.heap.size := fun x hx => hW.lt x (by rw [hp]; exact List.mem_append_left _ hx)
  refine ⟨ds, gs, before, [], p, [], hW, ?_, ?_, ?_, hb.frame _, fun h => by cases h⟩
  · rw [hspec, hres]
    exact trodAll_mk1 (shut_bool htb true)
  · rw [hspec]
    exact trodAll_below hl hb hts hA hlt
  · rw [hspec, hvars]
    rfl

/-- What a law's walk is asked: at every world and all arguments that can be read. -/
def LawWalk (P : Program) (F : FuncId) (fn : Func) (X : World → Prop) : Prop :=
  ∀ (W : World) (base : Nat) (args : Array Value) (H : Type) (enc : TypeId × Value → H) (ds : List (DataW H)) (p : List MemPlace),
    (∀ (j : Nat) t v, fn.params[j]? = some t → args[j]? = some v → Value.okWide P W .any base t v) → DataW.TrodAll enc P W 0 (fun _ => true) true fn.params.toList args.toList ds p → X W →
    Calls P F args W fun e W' => e = .returned (.bool true) ∧ Below W.heap.size W W'

theorem law_lifted {C : Checked} {F : FuncId} {fn : Func} {s : ChangeSpec} {os : Os} {H : Type} {enc : TypeId × Value → H} {tb : TypeId} (conds : List PathCond)
    (own : ownKnob C.prog.godebug = none) (started : os.Started) (noInit : C.prog.inits.idxOf? F = none) (hfn : C.prog.funcs[F]? = some fn)
    (hl : laidOutB C.prog = true) (hts : fn.params.toList.all (fun t => C.prog.readableRec t && decide (t < C.prog.types.size)) = true) (hres : fn.resultTypes = #[tb]) (htb : C.prog.underlying tb = some .bool) (hvars : s.vars = [])
    (hspec : ∀ ds : List (DataW H), ds.length = fn.params.size → s.fn H ds = { results := [.lit (.bool true)], args := ds, vars := [] })
    (witness : ∃ (w : World) (tape : Tape) (i : Input), w.os = os ∧ (w.forCall tape i).Shaped C.prog ∧ i.vars = [] ∧ Input.okWide C.prog (w.forCall tape i) .any w.heap.size F i ∧
      s.pre6 enc C.prog fn conds false (w.forCall tape i).memory i.args ∧ ({} : Assume).holds C.prog (lone (Frame.enter C.prog F i.args .normal) [] (w.forCall tape i)))
    (walk : LawWalk C.prog F fn (fun _ => True)) :
    ReturnsInHanded {} C os F .any (s.pre6 enc C.prog fn conds false) (s.post enc C.prog fn false true false false) := by
  refine returnsInHanded_of_change (C := C) own started noInit hfn witness ?_
  intro W base args ds gs before hval hW _ _
  have hW' := hW
  obtain ⟨p, q, hA, hV, hpq, _, _⟩ := hW
  rw [hvars] at hV
  obtain ⟨rfl, rfl⟩ := trodVars_none hV
  have hlen : ds.length = fn.params.size := trodAll_length hA
  refine (walk W base args H enc ds p hval hA trivial).mono fun e W' ⟨he, hb⟩ => ?_
  exact ⟨_, he, law_post hl hts hres htb hvars hW' (by rw [List.append_nil]; exact hspec ds hlen) hA hpq hb⟩
end Go.Proofs.YtemhdfodghfkfaaGreatDoor
namespace Go.Proofs.YtemhdfodghfkfaaGreatDoor
open Go.RowKit
open Go.ChangeShapes Go.WideShapes Go.ChangeAt

/-- an error value: nil, or an Errno -/
def errV (n : Int) : Value := if n = 0 then .nilIface else .iface 78 (.int .i64 n)
theorem errV_zero : errV 0 = .nilIface := rfl
theorem errV_ne {n : Int} (h : n ≠ 0) : errV n = .iface 78 (.int .i64 n) := if_neg h

structure E where
  key : Int
  ver : Int
  asof : Int
  gone : Bool
  text : ByteArray
def E.cells (e : E) : List Value := [.int .i64 e.key, .int .i64 e.ver, .int .i64 e.asof, .bool e.gone, .string e.text]

def keyB (k : Int) : Bool := decide (0 ≤ k) && decide (k < 8)
def seqB (n : Int) : Bool := decide (0 ≤ n) && decide (n ≤ 1000)
theorem keyB_true {k : Int} : keyB k = true ↔ 0 ≤ k ∧ k < 8 := by simp [keyB]
theorem keyB_false {k : Int} : keyB k = false ↔ k < 0 ∨ 8 ≤ k := by
  rw [← Bool.not_eq_true, keyB_true]; omega
theorem seqB_true {k : Int} : seqB k = true ↔ 0 ≤ k ∧ k ≤ 1000 := by simp [seqB]
theorem seqB_false {k : Int} : seqB k = false ↔ k < 0 ∨ 1000 < k := by
  rw [← Bool.not_eq_true, seqB_true]; omega

theorem key_any (k : Int) (w : World) : Calls Tryz.prog 134 #[.int .i64 k] w fun e w' => e = .returned (.bool (keyB k)) ∧ w = w' := by
  rcases hk : keyB k with _ | _
  · rw [keyB_false] at hk
    by_cases h0 : 0 ≤ k
    · have h8 : ¬ k < 8 := by omega
      clear hk
      go_enter Tryz.func134, Tryz.ntmps134
      go_wp2
      go_ret
      exact ⟨rfl, rfl⟩
    · clear hk
      go_enter Tryz.func134, Tryz.ntmps134
      go_wp2
      go_ret
      exact ⟨rfl, rfl⟩
  · rw [keyB_true] at hk
    obtain ⟨h0, h8⟩ := hk
    go_enter Tryz.func134, Tryz.ntmps134
    go_wp2
    go_ret
    exact ⟨rfl, rfl⟩

theorem seq_any (k : Int) (w : World) : Calls Tryz.prog 191 #[.int .i64 k] w fun e w' => e = .returned (.bool (seqB k)) ∧ w = w' := by
  rcases hk : seqB k with _ | _
  · rw [seqB_false] at hk
    by_cases h0 : 0 ≤ k
    · have h8 : ¬ k ≤ 1000 := by omega
      clear hk
      go_enter Tryz.func191, Tryz.ntmps191
      go_wp2
      go_ret
      exact ⟨rfl, rfl⟩
    · clear hk
      go_enter Tryz.func191, Tryz.ntmps191
      go_wp2
      go_ret
      exact ⟨rfl, rfl⟩
  · rw [seqB_true] at hk
    obtain ⟨h0, h8⟩ := hk
    go_enter Tryz.func191, Tryz.ntmps191
    go_wp2
    go_ret
    exact ⟨rfl, rfl⟩
end Go.Proofs.YtemhdfodghfkfaaGreatDoor
namespace Go.Proofs.YtemhdfodghfkfaaGreatDoor
open Go.RowKit
open Go.ChangeShapes Go.WideShapes Go.ChangeAt

theorem Tryz.own : ownKnob Tryz.prog.godebug = none := by kernel_rfl
theorem Tryz.laidOut : laidOutB Tryz.prog = true := by kernel_rfl
theorem Tryz.cellsEntry : Tryz.prog.cellsOf 59 = 5 := by kernel_rfl
theorem Tryz.cellsInt : Tryz.prog.cellsOf 3 = 1 := by kernel_rfl
theorem Tryz.cellsBool : Tryz.prog.cellsOf 4 = 1 := by kernel_rfl
theorem Tryz.cellsStr : Tryz.prog.cellsOf 9 = 1 := by kernel_rfl

/-- what is known of an entry that came in -/
def E.good (e : E) : Prop := (-9223372036854775808 ≤ e.key ∧ e.key ≤ 9223372036854775807) ∧ (-9223372036854775808 ≤ e.ver ∧ e.ver ≤ 9223372036854775807) ∧ (-9223372036854775808 ≤ e.asof ∧ e.asof ≤ 9223372036854775807) ∧ e.text.size ≤ maxLen
def codecEntry : Codec Tryz.prog 59 E where
  cells e := e.cells
  good _ e := e.good
  opens h := by
    obtain ⟨hlen, n, hf⟩ := trod_fields Tryz.underlying59 (by kernel_rfl) (by kernel_rfl) h
    obtain ⟨c0, y0, e0, h0⟩ := hf 0 _ rfl
    obtain ⟨c1, y1, e1, h1⟩ := hf 1 _ rfl
    obtain ⟨c2, y2, e2, h2⟩ := hf 2 _ rfl
    obtain ⟨c3, y3, e3, h3⟩ := hf 3 _ rfl
    obtain ⟨c4, y4, e4, h4⟩ := hf 4 _ rfl
    obtain ⟨k, hk, hgk⟩ := (Codec.int Tryz.underlying3).opens h0
    obtain ⟨v, hv, hgv⟩ := (Codec.int Tryz.underlying3).opens h1
    obtain ⟨a, ha, hga⟩ := (Codec.int Tryz.underlying3).opens h2
    obtain ⟨g, hg, _⟩ := (Codec.bool Tryz.underlying4).opens h3
    obtain ⟨t, ht, hgt⟩ := (Codec.str Tryz.underlying9).opens h4
    simp only [Codec.int, Codec.bool, Codec.str, List.cons.injEq, and_true] at hk hv ha hg ht
    subst hk hv ha hg ht
    refine ⟨⟨k, v, a, g, t⟩, ?_, hgk, hgv, hga, hgt⟩
    apply List.ext_getElem?
    intro i
    match i with
    | 0 => exact e0
    | 1 => exact e1
    | 2 => exact e2
    | 3 => exact e3
    | 4 => exact e4
    | i + 5 => rw [List.getElem?_eq_none (by rw [hlen]; exact Nat.le_add_left 5 i), List.getElem?_eq_none (by simp [E.cells])]
  stays h _ := h
end Go.Proofs.YtemhdfodghfkfaaGreatDoor
namespace Go.Proofs.YtemhdfodghfkfaaGreatDoor
open Go.RowKit
open Go.ChangeShapes Go.WideShapes Go.ChangeAt

theorem hide {p : Prop} (h : p) : Hid p := h
theorem ret_i {k : IntKind} {a b : Int} (h : a = b) : Ending.returned (.int k a) = .returned (.int k b) := by rw [h]
theorem ret_b {a b : Bool} (h : a = b) : Ending.returned (.bool a) = .returned (.bool b) := by rw [h]
theorem pos_of_eq {n m : Nat} (h : n = m) (hm : 0 < m) : 0 < n := by rw [h]; exact hm
def codecInts : Codec Tryz.prog 53 (SlV Int) := Codec.slice Tryz.underlying53 (Codec.int Tryz.underlying3) (pos_of_eq Tryz.cellsInt (by decide))
def codecStrs : Codec Tryz.prog 23 (SlV ByteArray) := Codec.slice Tryz.underlying23 (Codec.str Tryz.underlying9) (pos_of_eq Tryz.cellsStr (by decide))
def codecEntries : Codec Tryz.prog 27 (SlV E) := Codec.slice Tryz.underlying27 codecEntry (pos_of_eq Tryz.cellsEntry (by decide))
theorem Tryz.cellsEntries : Tryz.prog.cellsOf 27 = 1 := by kernel_rfl
def codecEntriess : Codec Tryz.prog 30 (SlV (SlV E)) := Codec.slice Tryz.underlying30 codecEntries (pos_of_eq Tryz.cellsEntries (by decide))

/-- a row of ints as it came in -/
structure IntsAt (w : World) (s : SlV Int) : Prop where
  row : 0 < s.xs.length → ∃ b off, s.A = some ⟨b, off, none⟩ ∧ b < w.heap.size ∧ ∀ i, i < s.xs.length → w.cell? ⟨b, off + i, none⟩ = some (.int .i64 (s.xs.getD i 0))
  len : s.xs.length ≤ maxLen
theorem intsAt_of {w : World} {s : SlV Int} (h : codecInts.good w s) : IntsAt w s where
  row hn := by
    obtain ⟨b, off, hA, hb, hc⟩ := h.1 hn
    refine ⟨b, off, hA, hb, fun i hi => ?_⟩
    have := hc i hi 0 (by rw [Tryz.cellsInt]; decide)
    rw [Tryz.cellsInt, Nat.mul_one, Nat.add_zero] at this
    rw [this]
    simp [Codec.int, List.getD, List.getElem?_eq_getElem hi]
  len := Nat.le_trans h.2.2.1 h.2.2.2
/-- rows of ints as they came in -/
structure IntssAt (w : World) (s : SlV (SlV Int)) : Prop where
  row : 0 < s.xs.length → ∃ b off, s.A = some ⟨b, off, none⟩ ∧ b < w.heap.size ∧ ∀ i (hi : i < s.xs.length), w.cell? ⟨b, off + i, none⟩ = some (.slice s.xs[i].A s.xs[i].xs.length s.xs[i].c)
  each : ∀ i (hi : i < s.xs.length), IntsAt w s.xs[i]
  len : s.xs.length ≤ maxLen
/-- strings as they came in -/
structure StrsAt (w : World) (s : SlV ByteArray) : Prop where
  row : 0 < s.xs.length → ∃ b off, s.A = some ⟨b, off, none⟩ ∧ b < w.heap.size ∧ ∀ i (hi : i < s.xs.length), w.cell? ⟨b, off + i, none⟩ = some (.string s.xs[i])
  each : ∀ x ∈ s.xs, x.size ≤ maxLen
  len : s.xs.length ≤ maxLen
theorem strsAt_of {w : World} {s : SlV ByteArray} (h : codecStrs.good w s) : StrsAt w s where
  row hn := by
    obtain ⟨b, off, hA, hb, hc⟩ := h.1 hn
    refine ⟨b, off, hA, hb, fun i hi => ?_⟩
    have := hc i hi 0 (by rw [Tryz.cellsStr]; decide)
    rw [Tryz.cellsStr, Nat.mul_one, Nat.add_zero] at this
    rw [this]
    rfl
  each := h.2.1
  len := Nat.le_trans h.2.2.1 h.2.2.2
/-- entries as they came in -/
structure EntriesAt (w : World) (s : SlV E) : Prop where
  row : 0 < s.xs.length → ∃ b off, s.A = some ⟨b, off, none⟩ ∧ b < w.heap.size ∧ ∀ i (hi : i < s.xs.length) f, f < 5 → w.cell? ⟨b, off + i * 5 + f, none⟩ = (s.xs[i].cells)[f]?
  each : ∀ x ∈ s.xs, x.good
  len : s.xs.length ≤ maxLen
theorem entriesAt_of {w : World} {s : SlV E} (h : codecEntries.good w s) : EntriesAt w s where
  row hn := by
    obtain ⟨b, off, hA, hb, hc⟩ := h.1 hn
    refine ⟨b, off, hA, hb, fun i hi f hf => ?_⟩
    have := hc i hi f (by rw [Tryz.cellsEntry]; exact hf)
    rw [Tryz.cellsEntry] at this
    exact this
  each := h.2.1
  len := Nat.le_trans h.2.2.1 h.2.2.2
end Go.Proofs.YtemhdfodghfkfaaGreatDoor
namespace Go.Proofs.YtemhdfodghfkfaaGreatDoor
open Go.RowKit
open Go.ChangeShapes Go.WideShapes Go.ChangeAt

/-! ### lists -/
theorem flat_length {α : Type} (cells : α → List Value) (n : Nat) (hlen : ∀ a, (cells a).length = n) (l : List α) : (l.flatMap cells).length = l.length * n := by
  induction l with
  | nil => simp
  | cons a r ih => rw [List.flatMap_cons, List.length_append, ih, hlen, List.length_cons, Nat.succ_mul, Nat.add_comm]
theorem flat_get {α : Type} (cells : α → List Value) (n : Nat) (hlen : ∀ a, (cells a).length = n) : ∀ (l : List α) (i f : Nat) (hi : i < l.length), f < n → (l.flatMap cells)[i * n + f]? = (cells l[i])[f]?
  | a :: r, 0, f, _, hf => by
    rw [List.flatMap_cons, Nat.zero_mul, Nat.zero_add, List.getElem?_append_left (by rw [hlen]; exact hf)]
    rfl
  | a :: r, i + 1, f, hi, hf => by
    rw [List.flatMap_cons, List.getElem?_append_right (by rw [hlen, Nat.succ_mul]; omega), hlen, show (i + 1) * n + f - n = i * n + f by rw [Nat.succ_mul]; omega, flat_get cells n hlen r i f (by simpa using hi) hf]
    rfl
theorem take_snocD {α : Type} {l : List α} {k : Nat} (z : α) (h : k < l.length) : l.take (k + 1) = l.take k ++ [l.getD k z] := by
  rw [List.take_add_one, List.getD, List.getElem?_eq_getElem h]
  rfl
theorem getD_memD {α : Type} {l : List α} {a : Nat} (z : α) (h : a < l.length) : l.getD a z ∈ l := by
  rw [List.getD, List.getElem?_eq_getElem h, Option.getD_some]
  exact List.getElem_mem h
theorem getD_get {α : Type} {l : List α} {a : Nat} (z : α) (h : a < l.length) : l.getD a z = l[a] := by
  rw [List.getD, List.getElem?_eq_getElem h, Option.getD_some]
theorem drop_consD {α : Type} {l : List α} {k : Nat} (z : α) (h : k < l.length) : l.drop k = l.getD k z :: l.drop (k + 1) := by
  rw [getD_get z h]; exact List.drop_eq_getElem_cons h
theorem mul_in {i m n c : Nat} (hi : i < m) (hm : m ≤ c) : i * n + n ≤ c * n := by
  have := Nat.mul_le_mul_right n (show i + 1 ≤ c by omega)
  rw [Nat.succ_mul] at this
  exact this

/-! ### frames -/
theorem Fr.below0 {S : Nat → Prop} {a b : World} {B : Nat} (h : Fr S a b) (hB : B ≤ a.heap.size) (hS : ∀ i, S i → B ≤ i) : Below B a b :=
  h.below hB (fun _ hi hs => absurd (hS _ hs) (by omega))
theorem Fr.step {S : Nat → Prop} {a b c : World} (h : Fr S a b) (k : Fr S b c) : Fr S a c := h.trans k (fun _ hi => .inl hi)
theorem Fr.stepB {S : Nat → Prop} {a b c : World} (h : Fr S a b) (k : Below b.heap.size b c) : Fr S a c :=
  h.trans (S' := fun _ => False) (Fr.ofB k) (fun _ h => h.elim)
theorem Fr.gone {S : Nat → Prop} {a b : World} (h : Fr S a b) (hS : ∀ i, i < a.heap.size → ¬ S i) : Below a.heap.size a b := h.below (Nat.le_refl _) hS
theorem Fr.setCells {S : Nat → Prop} {a : World} (b : Nat) : ∀ (vs : List Value) (o : Nat) (w : World), Fr S a w → (S b ∨ a.heap.size ≤ b) → Fr S a (w.setCells b o vs)
  | [], _, _, h, _ => h
  | v :: r, o, w, h, hb => Fr.setCells b r (o + 1) (w.setCell ⟨b, o, none⟩ v) (h.setCell hb v) hb
theorem Blk.setCells {g : Nat} {T : TypeId} : ∀ (vs : List Value) (o : Nat) (w : World) (cur : Array Value), Blk w g T cur → o + vs.length ≤ cur.size →
    ∃ cur', Blk (w.setCells g o vs) g T cur' ∧ cur'.size = cur.size ∧ (∀ j, j < vs.length → cur'[o + j]? = vs[j]?) ∧ ∀ k, k < o ∨ o + vs.length ≤ k → cur'[k]? = cur[k]?
  | [], o, w, cur, h, _ => ⟨cur, h, rfl, (fun j hj => by simp at hj), fun _ _ => rfl⟩
  | v :: r, o, w, cur, h, hl => by
    simp only [List.length_cons] at hl
    obtain ⟨cur', h1, h2, h3, h4⟩ := Blk.setCells r (o + 1) (w.setCell ⟨g, o, none⟩ v) _ (h.put o v) (by simp; omega)
    refine ⟨cur', h1, by rw [h2]; simp, fun j hj => ?_, fun k hk => ?_⟩
    · cases j with
      | zero =>
        rw [h4 _ (.inl (by omega)), Array.getElem?_setIfInBounds, if_pos (by omega), if_pos (by omega)]
        rfl
      | succ j =>
        have := h3 j (by simpa using hj)
        rw [show o + (j + 1) = o + 1 + j by omega, this]
        rfl
    · simp only [List.length_cons] at hk
      rw [h4 k (by omega), Array.getElem?_setIfInBounds, if_neg (by omega)]
theorem Blk.other {w w' : World} {g : Nat} {T : TypeId} {cs : Array Value} {b o : Nat} {vs : List Value} (h : Blk w g T cs) (hn : g ≠ b) (hw : w' = w.setCells b o vs) : Blk w' g T cs := by
  subst hw
  exact h.fr (S := fun k => k = b) (Fr.setCells b vs o w (Fr.refl _ _) (.inl rfl)) hn

/-- a slice's length and capacity -/
def SlV.ok {α : Type} (s : SlV α) : Prop := s.xs.length ≤ s.c ∧ s.c ≤ maxLen
/-! ### slices of the call's own -/
/-- the block that a slice may be written to by -/
def foot : Value → Option Nat
  | .slice (some a) _ (_ + 1) => some a.block
  | _ => none
/-- a slice of the call's own, of the elements l: its cells, and those behind it up to its capacity, lie in a block from base on, not frozen -/
def Ow {α : Type} (cells : α → List Value) (n : Nat) (base : Nat) (T : TypeId) (w : World) (v : Value) (l : List α) : Prop :=
  ∃ A cap, v = .slice A l.length cap ∧ l.length ≤ cap ∧ cap ≤ maxLen ∧ (cap = 0 ∨ ∃ g off cur, A = some ⟨g, off, none⟩ ∧ base ≤ g ∧ Blk w g T cur ∧ off + cap * n ≤ cur.size ∧ ∀ i (hi : i < l.length) f, f < n → cur[off + i * n + f]? = (cells l[i])[f]?)
section
variable {α : Type} {cells : α → List Value} {n base : Nat} {T : TypeId} {w w' : World} {v : Value} {l : List α}
theorem Ow.nil (cells : α → List Value) (n base : Nat) (T : TypeId) (w : World) : Ow cells n base T w (.slice none 0 0) [] := ⟨none, 0, rfl, Nat.le_refl _, Nat.zero_le _, .inl rfl⟩
theorem Ow.bare (cells : α → List Value) (n base : Nat) (T : TypeId) (w : World) (A : Option Addr) : Ow cells n base T w (.slice A 0 0) [] := ⟨A, 0, rfl, Nat.le_refl _, Nat.zero_le _, .inl rfl⟩
theorem Ow.lt (h : Ow cells n base T w v l) {g : Nat} (hg : foot v = some g) : base ≤ g ∧ g < w.heap.size := by
  obtain ⟨A, cap, rfl, _, _, rfl | ⟨g', off, cur, rfl, hb, hB, _⟩⟩ := h
  · cases A <;> cases hg
  · cases cap with
    | zero => cases hg
    | succ c => cases hg; exact ⟨hb, hB.lt⟩
theorem Ow.ge (h : Ow cells n base T w v l) : ∀ i, some i = foot v → base ≤ i := fun _ hi => (h.lt hi.symm).1
theorem Ow.fr {S : Nat → Prop} (h : Ow cells n base T w v l) (hf : Fr S w w') (hS : ∀ g, foot v = some g → ¬ S g) : Ow cells n base T w' v l := by
  obtain ⟨A, cap, rfl, h1, h2, rfl | ⟨g', off, cur, rfl, hb, hB, h3, h4⟩⟩ := h
  · exact ⟨A, 0, rfl, h1, h2, .inl rfl⟩
  · refine ⟨_, cap, rfl, h1, h2, ?_⟩
    cases cap with
    | zero => exact .inl rfl
    | succ c => exact .inr ⟨g', off, cur, rfl, hb, hB.fr hf (hS _ rfl), h3, h4⟩
theorem Ow.belowS (h : Ow cells n base T w v l) (hb : Below w.heap.size w w') : Ow cells n base T w' v l := h.fr (S := fun _ => False) (Fr.ofB hb) (fun _ _ h => h)
theorem Ow.alloc (h : Ow cells n base T w v l) (o : Obj) : Ow cells n base T (w.alloc o) v l := h.fr (S := fun _ => False) ((Fr.refl _ _).alloc o) (fun _ _ h => h)
theorem Ow.drewN (h : Ow cells n base T w v l) (k : Nat) : Ow cells n base T (w.drewN k) v l := h.fr (S := fun _ => False) ((Fr.refl _ _).drewN k) (fun _ _ h => h)
theorem Ow.drew (h : Ow cells n base T w v l) : Ow cells n base T w.drew v l := h.fr (S := fun _ => False) (Fr.refl _ _).drew (fun _ _ h => h)
theorem Ow.mono (h : Ow cells n base T w v l) {base' : Nat} (hb : base' ≤ base) : Ow cells n base' T w v l := by
  obtain ⟨A, cap, rfl, h1, h2, rfl | ⟨g', off, cur, rfl, hb', hB, h3, h4⟩⟩ := h
  · exact ⟨A, 0, rfl, h1, h2, .inl rfl⟩
  · exact ⟨_, cap, rfl, h1, h2, .inr ⟨g', off, cur, rfl, Nat.le_trans hb hb', hB, h3, h4⟩⟩
theorem Ow.form (h : Ow cells n base T w v l) : ∃ A cap, v = .slice A l.length cap ∧ l.length ≤ cap ∧ cap ≤ maxLen ∧ (0 < cap → ∃ g off, A = some ⟨g, off, none⟩ ∧ base ≤ g ∧ g < w.heap.size ∧ foot v = some g ∧ Ow cells n g T w v l) := by
  have h0 := h
  obtain ⟨A, cap, rfl, h1, h2, rfl | ⟨g', off, cur, rfl, hb', hB, h3, h4⟩⟩ := h
  · exact ⟨A, 0, rfl, h1, h2, fun h => by omega⟩
  · refine ⟨_, cap, rfl, h1, h2, fun h => ⟨g', off, rfl, hb', hB.lt, ?_, ⟨_, cap, rfl, h1, h2, .inr ⟨g', off, cur, rfl, Nat.le_refl _, hB, h3, h4⟩⟩⟩⟩
    cases cap with
    | zero => omega
    | succ c => rfl
/-- its elements, read -/
theorem Ow.get (h : Ow cells n base T w v l) (h0 : 0 < l.length) : ∃ g off cap, v = .slice (some ⟨g, off, none⟩) l.length cap ∧ l.length ≤ cap ∧ cap ≤ maxLen ∧ base ≤ g ∧ g < w.heap.size ∧ foot v = some g ∧
    (∀ i (hi : i < l.length) f, f < n → w.cell? ⟨g, off + i * n + f, none⟩ = (cells l[i])[f]?) ∧ (∀ o, w.frozen? ⟨g, o, none⟩ = false) := by
  obtain ⟨A, cap, rfl, h1, h2, rfl | ⟨g', off, cur, rfl, hb', hB, h3, h4⟩⟩ := h
  · omega
  · refine ⟨g', off, cap, rfl, h1, h2, hb', hB.lt, ?_, fun i hi f hf => (hB.cell _).trans (h4 i hi f hf), fun o => hB.frozen o⟩
    cases cap with
    | zero => omega
    | succ c => rfl
/-- an element is written anew -/
theorem Ow.set (hlen : ∀ a, (cells a).length = n) {g off cap len : Nat} (h : Ow cells n base T w (.slice (some ⟨g, off, none⟩) len cap) l) {i : Nat} (hi : i < l.length) (x : α) : Ow cells n base T (w.setCells g (off + i * n) (cells x)) (.slice (some ⟨g, off, none⟩) len cap) (l.set i x) := by
  obtain ⟨A, cap', hv, h1, h2, h3⟩ := h
  cases hv
  rcases h3 with rfl | ⟨g', off', cur, hA, hb', hB, h3, h4⟩
  · omega
  · cases hA
    have hin := mul_in (n := n) hi h1
    obtain ⟨cur', k1, k2, k3, k4⟩ := Blk.setCells (cells x) (off + i * n) w cur hB (by rw [hlen]; omega)
    refine ⟨_, cap, by rw [List.length_set], by rw [List.length_set]; exact h1, h2, .inr ⟨g, off, cur', rfl, hb', k1, by rw [k2]; exact h3, fun j hj f hf => ?_⟩⟩
    rw [List.length_set] at hj
    by_cases hij : i = j
    · subst hij
      rw [k3 f (by rw [hlen]; exact hf), List.getElem_set, if_pos rfl]
    · rw [List.getElem_set, if_neg hij, k4, h4 j hj f hf]
      rw [hlen]
      rcases Nat.lt_or_gt_of_ne hij with hlt | hgt
      · right
        have := mul_in (n := n) hlt (Nat.le_refl j)
        omega
      · left
        have := mul_in (n := n) hgt (Nat.le_refl i)
        omega
/-- its first k elements -/
theorem Ow.take {A : Option Addr} {len cap : Nat} (h : Ow cells n base T w (.slice A len cap) l) {k : Nat} (hk : k ≤ l.length) : Ow cells n base T w (.slice A k cap) (l.take k) := by
  have hlk : (l.take k).length = k := by rw [List.length_take]; omega
  obtain ⟨A', cap', hv, h1, h2, h3⟩ := h
  cases hv
  refine ⟨A, cap, by rw [hlk], by omega, h2, ?_⟩
  rcases h3 with rfl | ⟨g', off', cur, rfl, hb', hB, h3, h4⟩
  · exact .inl rfl
  · exact .inr ⟨g', off', cur, rfl, hb', hB, h3, fun i hi f hf => by rw [h4 i (by omega) f hf, List.getElem_take]⟩
/-- its elements from k on -/
theorem Ow.drop {g off len cap : Nat} (h : Ow cells n base T w (.slice (some ⟨g, off, none⟩) len cap) l) {k : Nat} (hk : k ≤ l.length) : Ow cells n base T w (.slice (some ⟨g, off + k * n, none⟩) (len - k) (cap - k)) (l.drop k) := by
  obtain ⟨A', cap', hv, h1, h2, h3⟩ := h
  cases hv
  refine ⟨_, cap - k, by rw [List.length_drop], by rw [List.length_drop]; omega, by omega, ?_⟩
  rcases h3 with rfl | ⟨g', off', cur, hA, hb', hB, h3, h4⟩
  · exact .inl (by omega)
  · cases hA
    refine .inr ⟨g, off + k * n, cur, rfl, hb', hB, ?_, fun i hi f hf => ?_⟩
    · have : k * n + (cap - k) * n = cap * n := by rw [← Nat.add_mul]; congr 1; omega
      omega
    · rw [List.length_drop] at hi
      have := h4 (k + i) (by omega) f hf
      rw [List.getElem_drop, ← this, Nat.add_mul]
      congr 1
      omega
theorem Ow.of_own (hlen : ∀ a, (cells a).length = n) (h : w.ownsRow base T n v l.length (l.flatMap cells)) : Ow cells n base T w v l := by
  rcases h.2 with ⟨rfl, h0⟩ | ⟨g, cap, cur, rfl, hb, hh, h1, h2, h3, h4⟩
  · cases l with
    | nil => exact Ow.nil _ _ _ _ _
    | cons a r => simp at h0
  · refine ⟨_, cap, rfl, h1, h2, .inr ⟨g, 0, cur, rfl, hb, hh, by omega, fun i hi f hf => ?_⟩⟩
    have hin := mul_in (n := n) hi (Nat.le_refl _)
    have e : (cur.toList.take (l.length * n))[i * n + f]? = (cells l[i])[f]? := by rw [h4]; exact flat_get cells n hlen l i f hi hf
    rw [List.getElem?_take, if_pos (by omega)] at e
    rw [Nat.zero_add, ← Array.getElem?_toList]
    exact e

theorem foot_slice (A : Option Addr) (k cap k' : Nat) : foot (.slice A k cap) = foot (.slice A k' cap) := by
  cases A <;> cases cap <;> rfl
theorem foot_some {a : Addr} {k cap : Nat} (h : 0 < cap) : foot (.slice (some a) k cap) = some a.block := by
  cases cap with
  | zero => omega
  | succ c => rfl
end

/-- append, from whatever source: what the walk goes on with -/
theorem app_wp {P : Program} {o : Oper} {a : Act} {K : Act → World → Prop} {Q : Exit → Act → World → Prop} {α : Type} (cells : α → List Value) (n bytes : Nat) (hlen : ∀ x, (cells x).length = n) (hpos : 0 < n) (hbytes : bytes ≤ 4096)
    (T TS TX : TypeId) (z : Value) (hz : z.cells.size = n) (hu : P.underlying TS = some (.slice T)) (hinfo : (P.info? T).map (fun i => (i.zero, i.size, i.bytes)) = some (some z, n, bytes))
    (s y : Operand) (ho : o.op = .call { callee := .builtin .append, args := #[s, y], argTypes := #[TS, TX] })
    (X : World) (base : Nat) (v u : Value) (l m : List α) (hs : a.eval s = v) (hy : a.eval y = u) (hsrc : Src P n TX u m.length (m.flatMap cells) X)
    (hown : Ow cells n base T X v l) (hl : l.length + m.length ≤ 1000000000) (hb : base ≤ X.heap.size)
    (h : ∀ v' w', Ow cells n base T w' v' (l ++ m) → Fr (fun k => some k = foot v) X w' → (foot v' = foot v ∨ foot v' = some X.heap.size) → K (a.put o.dst v') w') :
    o.wp P a X K Q := by
  obtain ⟨i0, hi, hz0, hz1, hz2⟩ := info_parts hinfo
  subst hz1
  obtain ⟨A, cap, rfl, h1, h2, h3⟩ := hown
  unfold Oper.wp execOp
  by_cases hroom : l.length + m.length ≤ cap
  · rcases h3 with rfl | ⟨g, off, cur, rfl, hbg, hB, h3, h4⟩
    · -- nothing to hold, nothing is added
      have hl0 : l = [] := List.eq_nil_of_length_eq_zero (by omega)
      have hm0 : m = [] := List.eq_nil_of_length_eq_zero (by omega)
      subst hl0 hm0
      have hr : (Builtin.append_ #[TS, TX] o.type #[.slice A 0 0, u]).run P X = .ok (.slice A 0 0) X := by
        rcases hsrc.kind with ⟨e', hk⟩ | hk <;> cases A <;> simp [Builtin.append_, run_underlying hu, run_underlying hk, sizeOf, typeInfo, hi, hsrc.len, storeCells, show (Builtin.firstCells i0.size 0 u).run P X = .ok #[] X from by simpa using hsrc.cells]
      simp only [ho, resolve, invoke, builtin, Sem.run_bind, Sem.run_pure, Result.andThen_ok, List.map_toArray, List.map_cons, List.map_nil, hs, hy, List.length_nil, hr]
      exact h _ _ (by simpa using Ow.bare cells i0.size base T X A) (Fr.refl _ _) (.inl rfl)
    · have hin : l.length * i0.size + m.length * i0.size ≤ cap * i0.size := by rw [← Nat.add_mul]; exact Nat.mul_le_mul_right _ hroom
      have hfl := flat_length cells i0.size hlen m
      have hr := run_append_room_src (P := P) X TS TX o.type T i0 hu hi g off l.length cap u m.length _ hsrc hroom
        (fun j hj => by rw [hB.cell, Array.getElem?_eq_getElem (by omega)]; rfl) (fun j hj => hB.frozen _)
      simp only [ho, resolve, invoke, builtin, Sem.run_bind, Sem.run_pure, Result.andThen_ok, List.map_toArray, List.map_cons, List.map_nil, hs, hy, hr]
      obtain ⟨cur', k1, k2, k3, k4⟩ := Blk.setCells (m.flatMap cells) (off + l.length * i0.size) X cur hB (by omega)
      refine h _ _ ⟨_, cap, by rw [List.length_append], by rw [List.length_append]; exact hroom, h2, ?_⟩ ?_ (.inl (foot_slice _ _ _ _))
      · refine .inr ⟨g, off, cur', rfl, hbg, k1, by rw [k2]; exact h3, fun i hil f hf => ?_⟩
        rw [List.length_append] at hil
        by_cases hic : i < l.length
        · have := mul_in (n := i0.size) hic (Nat.le_refl _)
          rw [k4 _ (.inl (by omega)), h4 i hic f hf, List.getElem_append_left hic]
        · have hjm : i - l.length < m.length := by omega
          have := mul_in (n := i0.size) hjm (Nat.le_refl _)
          have he : off + i * i0.size + f = off + l.length * i0.size + ((i - l.length) * i0.size + f) := by
            have : i * i0.size = l.length * i0.size + (i - l.length) * i0.size := by rw [← Nat.add_mul]; congr 1; omega
            omega
          rw [he, k3 _ (by omega), flat_get cells i0.size hlen m _ f hjm hf, List.getElem_append_right (by omega)]
      · by_cases hc0 : 0 < cap
        · exact Fr.setCells g _ _ X (Fr.refl _ _) (.inl (by rw [foot_some hc0]))
        · have hm0 : m = [] := List.eq_nil_of_length_eq_zero (by omega)
          subst hm0
          exact Fr.refl _ _
  · have hold : (Builtin.firstCells i0.size l.length (.slice A l.length cap)).run P X.drew = .ok (l.flatMap cells).toArray X.drew := by
      rcases h3 with rfl | ⟨g, off, cur, rfl, hbg, hB, h3, h4⟩
      · have hl0 : l = [] := List.eq_nil_of_length_eq_zero (by omega)
        subst hl0
        cases A with
        | none => exact run_firstCells_none X.drew i0.size 0 0 0
        | some b => exact run_firstCells_some X.drew i0.size 0 b 0 0 [] (by simp) (by simp)
      · refine run_firstCells_some X.drew i0.size l.length _ _ _ _ (flat_length cells i0.size hlen l) fun j x hj => ?_
        have hjl : j < l.length * i0.size := by rw [← flat_length cells i0.size hlen l]; exact (List.getElem?_eq_some_iff.1 hj).1
        have hdm := Nat.div_add_mod j i0.size
        have hq : j / i0.size < l.length := by
          rw [Nat.div_lt_iff_lt_mul hpos]; exact hjl
        have hmod := Nat.mod_lt j hpos
        rw [Nat.mul_comm] at hdm
        rw [Addr_add]
        show X.cell? _ = _
        rw [hB.cell, show off + j = off + j / i0.size * i0.size + j % i0.size by omega, h4 _ hq _ hmod, ← hj, ← flat_get cells i0.size hlen l _ _ hq hmod, hdm]
    have hbound : (l.length + m.length) * i0.bytes ≤ 140737488355328 := by
      rw [hz2]
      exact Nat.le_trans (Nat.mul_le_mul hl hbytes) (by decide)
    have hr := run_append_grow_src (P := P) X TS TX o.type T i0 z hu hi hz0 A l.length cap _ hold u m.length _ hsrc (by omega) (by omega) (growslice_fits (by omega) hbound)
    have hge := grownCap_ge X (l.length + m.length) cap T
    have hcm : grownCap X (l.length + m.length) cap T ≤ maxLen := grownCap_le_maxLen X (l.length + m.length) cap T (by unfold maxLen; omega)
    simp only [ho, resolve, invoke, builtin, Sem.run_bind, Sem.run_pure, Result.andThen_ok, List.map_toArray, List.map_cons, List.map_nil, hs, hy, hr]
    have hfa : l.flatMap cells ++ m.flatMap cells = (l ++ m).flatMap cells := by simp
    have hfl := flat_length cells i0.size hlen (l ++ m)
    refine h _ _ ⟨_, _, by rw [List.length_append], by rw [List.length_append]; exact hge, hcm, .inr ⟨X.heap.size, 0, _, rfl, hb, heap_alloc_new X.drew _, ?_, fun i hil f hf => ?_⟩⟩ ⟨rfl, rfl, rfl, by simp, fun k hk _ => Below.heap_alloc X.drew _ k hk⟩ ?_
    · rw [hfa]
      simp only [Array.size_append, List.size_toArray, size_zeroCells, hz, hfl, List.length_append, ← Nat.add_mul]
      rw [Nat.zero_add]
      exact Nat.mul_le_mul_right _ (by omega)
    · rw [hfa, Nat.zero_add]
      have hin := mul_in (n := i0.size) hil (Nat.le_refl _)
      rw [Array.getElem?_append_left (by rw [List.size_toArray, hfl]; omega), List.getElem?_toArray, flat_get cells i0.size hlen _ i f hil hf]
    · rw [foot_some (by omega)]
      exact .inr rfl
theorem app_src {P : Program} {ops : Array Oper} {rest : List Oper} {o : Oper} {a : Act} {Q : Exit → Act → World → Prop} {α : Type} (cells : α → List Value) (n bytes : Nat) (hlen : ∀ x, (cells x).length = n) (hpos : 0 < n) (hbytes : bytes ≤ 4096)
    (T TS TX : TypeId) (z : Value) (hz : z.cells.size = n) (hu : P.underlying TS = some (.slice T)) (hinfo : (P.info? T).map (fun i => (i.zero, i.size, i.bytes)) = some (some z, n, bytes))
    (hgd : o.guard = none) (s y : Operand) (ho : o.op = .call { callee := .builtin .append, args := #[s, y], argTypes := #[TS, TX] })
    (X : World) (base : Nat) (v u : Value) (l m : List α) (hs : a.eval s = v) (hy : a.eval y = u) (hsrc : Src P n TX u m.length (m.flatMap cells) X)
    (hown : Ow cells n base T X v l) (hl : l.length + m.length ≤ 1000000000) (hb : base ≤ X.heap.size)
    (h : ∀ v' w', Ow cells n base T w' v' (l ++ m) → Fr (fun k => some k = foot v) X w' → (foot v' = foot v ∨ foot v' = some X.heap.size) → wpList P ops Q rest (a.put o.dst v') w') :
    wpList P ops Q (o :: rest) a X :=
  wpList_plain hgd fun _ hK => app_wp cells n bytes hlen hpos hbytes T TS TX z hz hu hinfo s y ho X base v u l m hs hy hsrc hown hl hb fun v' w' h1 h2 h3 => hK _ _ (h v' w' h1 h2 h3)
theorem app_step {P : Program} {ops : Array Oper} {o : Oper} {a : Act} {K : Act → World → Prop} {Q : Exit → Act → World → Prop} {E : Prop} {α : Type} (cells : α → List Value) (n bytes : Nat) (hlen : ∀ x, (cells x).length = n) (hpos : 0 < n) (hbytes : bytes ≤ 4096)
    (T TS TX : TypeId) (z : Value) (hz : z.cells.size = n) (hu : P.underlying TS = some (.slice T)) (hinfo : (P.info? T).map (fun i => (i.zero, i.size, i.bytes)) = some (some z, n, bytes))
    (hgd : o.guard = none) (s y : Operand) (ho : o.op = .call { callee := .builtin .append, args := #[s, y], argTypes := #[TS, TX] })
    (X : World) (base : Nat) (v u : Value) (l m : List α) (hs : a.eval s = v) (hy : a.eval y = u) (hsrc : Src P n TX u m.length (m.flatMap cells) X)
    (hown : Ow cells n base T X v l) (hl : l.length + m.length ≤ 1000000000) (hb : base ≤ X.heap.size)
    (h : ∀ v' w', Ow cells n base T w' v' (l ++ m) → Fr (fun k => some k = foot v) X w' → (foot v' = foot v ∨ foot v' = some X.heap.size) → K (a.put o.dst v') w') :
    if Region.wanted o (yielded ops a.tmps) = true then Oper.wp P o a X K Q else E := by
  rw [if_pos (by simp [Region.wanted, hgd])]
  exact app_wp cells n bytes hlen hpos hbytes T TS TX z hz hu hinfo s y ho X base v u l m hs hy hsrc hown hl hb h

theorem Ow.blk {α : Type} {cells : α → List Value} {n base : Nat} {T : TypeId} {w : World} {l : List α} {g off len cap : Nat} (h : Ow cells n base T w (.slice (some ⟨g, off, none⟩) len cap) l) (h0 : 0 < cap) : ∃ cur, Blk w g T cur ∧ off + cap * n ≤ cur.size := by
  obtain ⟨A, cap', hv, _, _, h3⟩ := h
  cases hv
  rcases h3 with rfl | ⟨g', off', cur, hA, _, hB, h3, _⟩
  · omega
  · cases hA
    exact ⟨cur, hB, h3⟩
/-- what is written behind a slice's elements leaves them -/
theorem Ow.far {α : Type} {cells : α → List Value} {n base : Nat} {T : TypeId} {w : World} {l : List α} {g off len cap : Nat} (h : Ow cells n base T w (.slice (some ⟨g, off, none⟩) len cap) l) {start : Nat} {vs : List Value} (h1 : off + l.length * n ≤ start) (h2 : start + vs.length ≤ off + cap * n) :
    Ow cells n base T (w.setCells g start vs) (.slice (some ⟨g, off, none⟩) len cap) l := by
  obtain ⟨A, cap', hv, k1, k2, h3⟩ := h
  cases hv
  rcases h3 with rfl | ⟨g', off', cur, hA, hb, hB, h3, h4⟩
  · exact ⟨_, 0, rfl, k1, k2, .inl rfl⟩
  · cases hA
    obtain ⟨cur', q1, q2, _, q4⟩ := Blk.setCells vs start w cur hB (by omega)
    refine ⟨_, cap, rfl, k1, k2, .inr ⟨g, off, cur', rfl, hb, q1, by rw [q2]; exact h3, fun i hi f hf => ?_⟩⟩
    have := mul_in (n := n) hi (Nat.le_refl _)
    rw [q4 _ (.inl (by omega)), h4 i hi f hf]
/-- clear(s) -/
theorem wpList_clear {P : Program} {ops : Array Oper} {rest : List Oper} {o : Oper} {a : Act} {Q : Exit → Act → World → Prop} (X : World) (g off n cap sz bytes : Nat) (cur : Array Value) (T TS : TypeId) (z : Value) (zs : List Value) (hzs : (Builtin.zeroCells z.cells n).toList = zs) (hB : Blk X g T cur) (hin : off + n * sz ≤ cur.size)
    (hu : P.underlying TS = some (.slice T)) (hinfo : (P.info? T).map (fun i => (i.zero, i.size, i.bytes)) = some (some z, sz, bytes)) (hz : z.cells.size = sz) (h1 : ∀ u ∈ zs, u.oneCell' = true)
    (hgd : o.guard = none) (s : Operand) (ho : o.op = .call { callee := .builtin .clear, args := #[s], argTypes := #[TS] }) (hs : a.eval s = .slice (some ⟨g, off, none⟩) n cap)
    (h : wpList P ops Q rest (a.put o.dst (.tuple #[])) (X.setCells g off zs)) : wpList P ops Q (o :: rest) a X := by
  subst hzs
  obtain ⟨i0, hi, hz0, hz1, hz2⟩ := info_parts hinfo
  have hlen : (Builtin.zeroCells z.cells n).toList.length = n * sz := by rw [Array.length_toList, size_zeroCells, hz]
  have hst := run_storeCells_cells (P := P) g off (Builtin.zeroCells z.cells n).toList 0 X (fun j hj => by rw [hB.cell, Array.getElem?_eq_getElem (by omega)]; rfl) (fun j hj => hB.frozen _) h1
  simp only [Nat.add_zero] at hst
  have hr : (Builtin.clear_ #[TS] o.type #[.slice (some ⟨g, off, none⟩) n cap]).run P X = .ok (.tuple #[]) (X.setCells g off (Builtin.zeroCells z.cells n).toList) := by
    cases n with
    | zero =>
      have : (Builtin.zeroCells z.cells 0).toList = [] := List.eq_nil_of_length_eq_zero (by rw [hlen, Nat.zero_mul])
      rw [this]
      simp [Builtin.clear_, run_underlying hu, World.setCells]
    | succ k => simp [Builtin.clear_, run_underlying hu, zeroValue, typeInfo, hi, hz0, hst]
  refine wpList_plain hgd fun K hK => ?_
  unfold Oper.wp execOp
  simp only [ho, resolve, invoke, builtin, Sem.run_bind, Sem.run_pure, Result.andThen_ok, List.map_toArray, List.map_cons, List.map_nil, hs, hr]
  exact hK _ _ h
theorem zeros_one {z : Array Value} (hz : ∀ i (h : i < z.size), (z[i]).oneCell' = true) (n : Nat) : ∀ u ∈ (Builtin.zeroCells z n).toList, u.oneCell' = true := by
  intro u hu
  simp only [Builtin.zeroCells, Array.toList_map, List.mem_map] at hu
  obtain ⟨i, hi, rfl⟩ := hu
  have hlt : i < n * z.size := by simpa using hi
  have h0 : 0 < z.size := by
    rcases Nat.eq_zero_or_pos z.size with h | h
    · rw [h] at hlt; omega
    · exact h
  rw [getElem!_pos z (i % z.size) (Nat.mod_lt _ h0)]
  exact hz _ _
end Go.Proofs.YtemhdfodghfkfaaGreatDoor
namespace Go.Proofs.YtemhdfodghfkfaaGreatDoor
open Go.RowKit
open Go.ChangeShapes Go.WideShapes Go.ChangeAt
/-- copy(dst, src) into a block of the call's own: what the walk goes on with; of the source only its first cells are asked -/
theorem copy_wp {P : Program} {o : Oper} {a : Act} {K : Act → World → Prop} {Q : Exit → Act → World → Prop} (X : World) (g off dLen dCap sLen sCap k sz bytes : Nat) (A : Addr) (cur : Array Value) (T DT ST : TypeId) (z : Value) (news : List Value) (hB : Blk X g T cur) (hin : off + k * sz ≤ cur.size) (hk : k = Nat.min sLen dLen)
    (hu : P.underlying DT = some (.slice T)) (hinfo : (P.info? T).map (fun i => (i.zero, i.size, i.bytes)) = some (some z, sz, bytes)) (hnl : news.length = k * sz) (hnews : ∀ j u, news[j]? = some u → X.cell? (A.add j) = some u) (h1 : ∀ u ∈ news, u.oneCell' = true)
    (d s : Operand) (ho : o.op = .call { callee := .builtin .copy, args := #[d, s], argTypes := #[DT, ST] }) (hd : a.eval d = .slice (some ⟨g, off, none⟩) dLen dCap) (hs : a.eval s = .slice (some A) sLen sCap)
    (h : K (a.put o.dst (.int .i64 k)) (X.setCells g off news)) : o.wp P a X K Q := by
  obtain ⟨i0, hi, hz0, hz1, hz2⟩ := info_parts hinfo
  subst hz1
  have hst := run_storeCells_cells (P := P) g off news 0 X (fun j hj => by rw [hB.cell, Array.getElem?_eq_getElem (by omega)]; rfl) (fun j hj => hB.frozen _) h1
  simp only [Nat.add_zero] at hst
  have hf := run_firstCells_some (P := P) X i0.size k A sLen sCap news hnl hnews
  have hr : (Builtin.copy_ #[DT, ST] o.type #[.slice (some ⟨g, off, none⟩) dLen dCap, .slice (some A) sLen sCap]).run P X = .ok (.int .i64 k) (X.setCells g off news) := by
    simp [Builtin.copy_, run_underlying hu, sizeOf, typeInfo, hi, Builtin.lenOf, ← hk, hf, hst, goInt]
  unfold Oper.wp execOp
  simp only [ho, resolve, invoke, builtin, Sem.run_bind, Sem.run_pure, Result.andThen_ok, List.map_toArray, List.map_cons, List.map_nil, hd, hs, hr]
  exact h
end Go.Proofs.YtemhdfodghfkfaaGreatDoor
namespace Go.Proofs.YtemhdfodghfkfaaGreatDoor
open Go.RowKit
open Go.ChangeShapes Go.WideShapes Go.ChangeAt

/-- two slices of the call's own, of unlike elements -/
theorem Ow.typ {α : Type} {cells : α → List Value} {n base : Nat} {T : TypeId} {w : World} {v : Value} {l : List α} (h : Ow cells n base T w v l) {g : Nat} (hg : foot v = some g) : ∃ cur, Blk w g T cur := by
  obtain ⟨A, cap, rfl, _, _, rfl | ⟨g', off, cur, rfl, hb, hB, _⟩⟩ := h
  · cases A <;> cases hg
  · cases cap with
    | zero => cases hg
    | succ c => cases hg; exact ⟨cur, hB⟩
theorem Ow.keep {α β : Type} {cells : α → List Value} {cells2 : β → List Value} {n n2 base base2 : Nat} {T T2 : TypeId} {w w' : World} {v v2 : Value} {l : List α} {l2 : List β} (h : Ow cells n base T w v l) (h2 : Ow cells2 n2 base2 T2 w v2 l2) (hT : T ≠ T2) (hf : Fr (fun k => some k = foot v) w w') : Ow cells2 n2 base2 T2 w' v2 l2 :=
  h2.fr hf (fun g hg hs => by
    obtain ⟨c1, h1⟩ := h.typ hs.symm
    obtain ⟨c2, h2⟩ := h2.typ hg
    exact hT (h1.eq_ h2).2)
end Go.Proofs.YtemhdfodghfkfaaGreatDoor
namespace Go.Proofs.YtemhdfodghfkfaaGreatDoor
open Go.RowKit
open Go.ChangeShapes Go.WideShapes Go.ChangeAt

theorem app_room_wp {P : Program} {o : Oper} {a : Act} {K : Act → World → Prop} {Q : Exit → Act → World → Prop} {α : Type} (cells : α → List Value) (n bytes : Nat) (hlen : ∀ x, (cells x).length = n)
    (T TS TX : TypeId) (z : Value) (hu : P.underlying TS = some (.slice T)) (hinfo : (P.info? T).map (fun i => (i.zero, i.size, i.bytes)) = some (some z, n, bytes))
    (s y : Operand) (ho : o.op = .call { callee := .builtin .append, args := #[s, y], argTypes := #[TS, TX] })
    (X : World) (base g off k k2 cap : Nat) (u : Value) (l m : List α) (hs : a.eval s = .slice (some ⟨g, off, none⟩) k cap) (hk : l.length = k) (hk2 : l.length + m.length = k2) (hy : a.eval y = u) (hsrc : Src P n TX u m.length (m.flatMap cells) X)
    (hown : Ow cells n base T X (.slice (some ⟨g, off, none⟩) k cap) l) (hroom : l.length + m.length ≤ cap) (hc0 : 0 < cap)
    (h : ∀ w', Ow cells n base T w' (.slice (some ⟨g, off, none⟩) k2 cap) (l ++ m) → Fr (fun i => i = g) X w' → K (a.put o.dst (.slice (some ⟨g, off, none⟩) k2 cap)) w') :
    o.wp P a X K Q := by
  obtain ⟨i0, hi, hz0, hz1, hz2⟩ := info_parts hinfo
  subst hz1 hk hk2
  obtain ⟨A', cap', hv, h1, h2, h3⟩ := hown
  cases hv
  unfold Oper.wp execOp
  rcases h3 with rfl | ⟨g', off', cur, hA, hbg, hB, h3, h4⟩
  · omega
  · cases hA
    have hin : l.length * i0.size + m.length * i0.size ≤ cap * i0.size := by rw [← Nat.add_mul]; exact Nat.mul_le_mul_right _ hroom
    have hfl := flat_length cells i0.size hlen m
    have hr := run_append_room_src (P := P) X TS TX o.type T i0 hu hi g off l.length cap u m.length _ hsrc hroom
      (fun j hj => by rw [hB.cell, Array.getElem?_eq_getElem (by omega)]; rfl) (fun j hj => hB.frozen _)
    simp only [ho, resolve, invoke, builtin, Sem.run_bind, Sem.run_pure, Result.andThen_ok, List.map_toArray, List.map_cons, List.map_nil, hs, hy, hr]
    obtain ⟨cur', k1, k2, k3, k4⟩ := Blk.setCells (m.flatMap cells) (off + l.length * i0.size) X cur hB (by omega)
    refine h _ ⟨_, cap, by rw [List.length_append], by rw [List.length_append]; exact hroom, h2, ?_⟩ ?_
    · refine .inr ⟨g, off, cur', rfl, hbg, k1, by rw [k2]; exact h3, fun i hil f hf => ?_⟩
      rw [List.length_append] at hil
      by_cases hic : i < l.length
      · have := mul_in (n := i0.size) hic (Nat.le_refl _)
        rw [k4 _ (.inl (by omega)), h4 i hic f hf, List.getElem_append_left hic]
      · have hjm : i - l.length < m.length := by omega
        have := mul_in (n := i0.size) hjm (Nat.le_refl _)
        have he : off + i * i0.size + f = off + l.length * i0.size + ((i - l.length) * i0.size + f) := by
          have : i * i0.size = l.length * i0.size + (i - l.length) * i0.size := by rw [← Nat.add_mul]; congr 1; omega
          omega
        rw [he, k3 _ (by omega), flat_get cells i0.size hlen m _ f hjm hf, List.getElem_append_right (by omega)]
    · exact Fr.setCells g _ _ X (Fr.refl _ _) (.inl rfl)
theorem app_room_step {P : Program} {ops : Array Oper} {o : Oper} {a : Act} {K : Act → World → Prop} {Q : Exit → Act → World → Prop} {E : Prop} {α : Type} (cells : α → List Value) (n bytes : Nat) (hlen : ∀ x, (cells x).length = n)
    (T TS TX : TypeId) (z : Value) (hu : P.underlying TS = some (.slice T)) (hinfo : (P.info? T).map (fun i => (i.zero, i.size, i.bytes)) = some (some z, n, bytes))
    (hgd : o.guard = none) (s y : Operand) (ho : o.op = .call { callee := .builtin .append, args := #[s, y], argTypes := #[TS, TX] })
    (X : World) (base g off k k2 cap : Nat) (u : Value) (l m : List α) (hs : a.eval s = .slice (some ⟨g, off, none⟩) k cap) (hk : l.length = k) (hk2 : l.length + m.length = k2) (hy : a.eval y = u) (hsrc : Src P n TX u m.length (m.flatMap cells) X)
    (hown : Ow cells n base T X (.slice (some ⟨g, off, none⟩) k cap) l) (hroom : l.length + m.length ≤ cap) (hc0 : 0 < cap)
    (h : ∀ w', Ow cells n base T w' (.slice (some ⟨g, off, none⟩) k2 cap) (l ++ m) → Fr (fun i => i = g) X w' → K (a.put o.dst (.slice (some ⟨g, off, none⟩) k2 cap)) w') :
    if Region.wanted o (yielded ops a.tmps) = true then Oper.wp P o a X K Q else E := by
  rw [if_pos (by simp [Region.wanted, hgd])]
  exact app_room_wp cells n bytes hlen T TS TX z hu hinfo s y ho X base g off k k2 cap u l m hs hk hk2 hy hsrc hown hroom hc0 h
end Go.Proofs.YtemhdfodghfkfaaGreatDoor
namespace Go.Proofs.YtemhdfodghfkfaaGreatDoor

def findReg (n : Nat) : Code → Option Code
  | .region id ops b => if id = n then some (.region id ops b) else none
  | .loop c => findReg n c
  | .seq a b => match findReg n a with
    | some c => some c
    | none => findReg n b
  | .block _ c => findReg n c
  | .scope c => findReg n c
  | .cond _ a b => match findReg n a with
    | some c => some c
    | none => findReg n b
  | _ => none
end Go.Proofs.YtemhdfodghfkfaaGreatDoor
