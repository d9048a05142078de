/-
  THE KIT of rows of slices: a row whose elements are slices (what these hold is asked apart): read, handed on, appended to. CONDITIONS: none.
  ROWS OF CACHES of the call's own: appended to, handed on. CONDITIONS: none.
-/
import Derived.Test.YtemhdfodghfkfaaGreatDoorKit
import Derived.Test.YtemhdfodghfkfaaGreatDoorKitJ
import Derived.Lib.AppendZerosOnto
import Derived.Test.YtemhdfodghfkfaaGreatDoorCCheck
import Derived.Test.YtemhdfodghfkfaaGreatDoorCAdd
import Derived.Test.YtemhdfodghfkfaaGreatDoorRepLaw
namespace Go.Proofs.YtemhdfodghfkfaaGreatDoor
open Go.RowKit
open Go.ChangeShapes Go.WideShapes Go.ChangeAt

def SlV.val {α : Type} (s : SlV α) : Value := .slice s.A s.xs.length s.c
def SlV.nil {α : Type} : SlV α := ⟨none, 0, []⟩
def cellS {α : Type} (s : SlV α) : List Value := [s.val]
theorem cellS_length {α : Type} (s : SlV α) : (cellS s).length = 1 := rfl
theorem cellS_one {α : Type} (s : SlV α) : ∀ u ∈ cellS s, u.oneCell' = true := by intro u hu; simp [cellS] at hu; subst hu; rfl
/-- a row of slices -/
structure SsAt {α : Type} (w : World) (s : SlV (SlV α)) : Prop where
  row : 0 < s.xs.length → ∃ b off, s.A = some ⟨b, off, none⟩ ∧ b < w.heap.size ∧ ∀ i, i < s.xs.length → w.cell? ⟨b, off + i, none⟩ = some (s.xs.getD i SlV.nil).val
  len : s.xs.length ≤ maxLen
section
variable {α : Type}
theorem SsAt.stays {w w' : World} {s : SlV (SlV α)} (h : SsAt w s) (hb : Below w.heap.size w w') : SsAt w' s := ⟨fun h0 => by
    obtain ⟨b, off, h1, h2, h3⟩ := h.row h0
    exact ⟨b, off, h1, Nat.lt_of_lt_of_le h2 hb.size, fun i hi => (hb.cell (p := ⟨b, _, none⟩) h2).trans (h3 i hi)⟩, h.len⟩
theorem SsAt.fr {S : Nat → Prop} {w w' : World} {s : SlV (SlV α)} (h : SsAt w s) (hb : Fr S w w') (hn : 0 < s.xs.length → ∀ b off, s.A = some ⟨b, off, none⟩ → ¬ S b) : SsAt w' s := ⟨fun h0 => by
    obtain ⟨b, off, h1, h2, h3⟩ := h.row h0
    exact ⟨b, off, h1, Nat.lt_of_lt_of_le h2 hb.size, fun i hi => (hb.cell (p := ⟨b, _, none⟩) h2 (hn h0 _ _ h1)).trans (h3 i hi)⟩, h.len⟩
theorem SsAt.drewN {w : World} {s : SlV (SlV α)} (h : SsAt w s) (n : Nat) : SsAt (w.drewN n) s := ⟨h.row, h.len⟩
theorem SsAt.bare (w : World) (A : Option Addr) (c : Nat) : SsAt w (⟨A, c, []⟩ : SlV (SlV α)) := ⟨(fun h => by cases h), Nat.zero_le _⟩
/-- a row just laid -/
theorem SsAt.of_blk {w : World} {g : Nat} {T : TypeId} {l : List (SlV α)} (h : Blk w g T (l.map SlV.val).toArray) (c : Nat) (hl : l.length ≤ maxLen) : SsAt w ⟨some ⟨g, 0, none⟩, c, l⟩ := by
  refine ⟨fun _ => ⟨g, 0, rfl, h.lt, fun i hi => ?_⟩, hl⟩
  have hi' : i < l.length := hi
  rw [Nat.zero_add, h.cell i]
  simp only
  rw [getD_get _ hi']
  simp [hi']
theorem SsAt.of_ow {w : World} {base : Nat} {T : TypeId} {v : Value} {l : List (SlV α)} (h : Ow cellS 1 base T w v l) :
    ∃ r : SlV (SlV α), v = .slice r.A r.xs.length r.c ∧ r.xs = l ∧ SsAt w r ∧ r.ok ∧ (0 < r.xs.length → ∀ b off, r.A = some ⟨b, off, none⟩ → foot v = some b ∧ base ≤ b) := by
  by_cases h0 : 0 < l.length
  · obtain ⟨g, off, cap, rfl, h1, h2, hb, hlt, hfo, hc, _⟩ := h.get h0
    refine ⟨⟨some ⟨g, off, none⟩, cap, l⟩, rfl, rfl, ⟨fun _ => ⟨g, off, rfl, hlt, fun i hi => ?_⟩, by show l.length ≤ maxLen; omega⟩, ⟨h1, h2⟩, fun _ b off hA => by cases hA; exact ⟨hfo, hb⟩⟩
    have hi' : i < l.length := hi
    have := hc i hi' 0 (by decide)
    rw [Nat.mul_one, Nat.add_zero] at this
    rw [this]
    show _ = some ((l.getD i SlV.nil).val)
    rw [getD_get _ hi']
    rfl
  · have hl0 : l = [] := by cases l with | nil => rfl | cons a r => simp at h0
    subst hl0
    obtain ⟨A, cap, rfl, h1, h2, _⟩ := h
    exact ⟨⟨A, cap, []⟩, rfl, rfl, SsAt.bare _ _ _, ⟨h1, h2⟩, fun h => by simp at h⟩
theorem SsAt.src {P : Program} {TS T : TypeId} (hk : P.underlying TS = some (.slice T)) {w : World} {s : SlV (SlV α)} (h : SsAt w s) : Src P 1 TS (.slice s.A s.xs.length s.c) s.xs.length (s.xs.flatMap cellS) w := by
  obtain ⟨A, c, xs⟩ := s
  by_cases h0 : 0 < xs.length
  · obtain ⟨b, off, hA, hlt, hc⟩ := h.row h0
    simp only at hA hc ⊢
    subst hA
    refine Src.ofSlice w hk ⟨b, off, none⟩ xs.length c _ (flat_length _ _ cellS_length _) (fun j u hj => ?_) (fun u hu => ?_)
    · have hq : j < xs.length := by
        have := (List.getElem?_eq_some_iff.1 hj).1
        rw [flat_length _ _ cellS_length xs] at this
        omega
      have hg := flat_get _ _ cellS_length xs j 0 hq (by decide)
      rw [Nat.mul_one, Nat.add_zero, hj] at hg
      rw [Addr_add, hc _ hq, hg, getD_get _ hq]
      rfl
    · obtain ⟨x, _, hx⟩ := List.mem_flatMap.1 hu
      exact cellS_one x u hx
  · have hl0 : xs = [] := by cases xs with | nil => rfl | cons a r => simp at h0
    subst hl0
    cases A with
    | none => exact Src.ofNil w hk c
    | some a => exact Src.ofSlice w hk a 0 c [] rfl (fun j u hj => by simp at hj) (fun u hu => by simp at hu)
end
theorem IntssAt.ss {w : World} {s : SlV (SlV Int)} (h : IntssAt w s) : SsAt w s := ⟨fun h0 => by
    obtain ⟨b, off, h1, h2, h3⟩ := h.row h0
    exact ⟨b, off, h1, h2, fun i hi => by rw [h3 i hi, getD_get _ hi]; rfl⟩, h.len⟩
theorem SsAt.ints {w : World} {s : SlV (SlV Int)} (h : SsAt w s) (he : ∀ x ∈ s.xs, IntsAt w x) : IntssAt w s := ⟨fun h0 => by
    obtain ⟨b, off, h1, h2, h3⟩ := h.row h0
    exact ⟨b, off, h1, h2, fun i hi => by rw [h3 i hi, getD_get _ hi]; rfl⟩, fun i hi => he _ (List.getElem_mem hi), h.len⟩
theorem IntsAt.of_blk {w : World} {g : Nat} {T : TypeId} {l : List Int} (h : Blk w g T (ints l)) (c : Nat) (hl : l.length ≤ maxLen) : IntsAt w ⟨some ⟨g, 0, none⟩, c, l⟩ := by
  refine ⟨fun _ => ⟨g, 0, rfl, h.lt, fun i hi => ?_⟩, hl⟩
  have hi' : i < l.length := hi
  rw [Nat.zero_add, h.cell i, ints_get l i hi']

/- slices of []int -/
theorem infoS : (Tryz.prog.info? 53).map (fun i => (i.zero, i.size, i.bytes)) = some (some (.slice none 0 0), 1, 24) := by kernel_rfl
end Go.Proofs.YtemhdfodghfkfaaGreatDoor
namespace Go.Proofs.YtemhdfodghfkfaaGreatDoor
open Go.RowKit
open Go.ChangeShapes Go.WideShapes Go.ChangeAt

theorem infoSE : (Tryz.prog.info? 27).map (fun i => (i.zero, i.size, i.bytes)) = some (some (.slice none 0 0), 1, 24) := by kernel_rfl
theorem appSE {ops : Array Oper} {rest : List Oper} {o : Oper} {a : Act} {Q : Exit → Act → World → Prop} (X : World) (base : Nat) (v : Value) (l : List (SlV E)) (x0 : SlV E) (hown : Ow cellS 1 base 27 X v l)
    (hgd : o.guard = none) (p q : Operand) (ho : o.op = .call { callee := .builtin .append, args := #[p, q], argTypes := #[30, 30] }) (hp : a.eval p = v) {N : Nat} (hq : a.eval q = .slice (some ⟨N, 0, none⟩) 1 1) (hN : X.heap.size = N) (hl : l.length ≤ 100000000) (hb : base ≤ X.heap.size)
    (h : ∀ v' w', Ow cellS 1 base 27 w' v' (l ++ [x0]) → Fr (fun k => some k = foot v) X w' → (foot v' = foot v ∨ foot v' = some (X.heap.size + 1)) → wpList Tryz.prog ops Q rest (a.put o.dst v') w') :
    wpList Tryz.prog ops Q (o :: rest) a (X.alloc (.cells #[.slice x0.A x0.xs.length x0.c] 27)) := by
  subst hN
  exact app_src cellS 1 24 cellS_length (by decide) (by decide) _ _ 30 (.slice none 0 0) rfl Tryz.underlying30 infoSE hgd p q ho _ base v _ l [x0] hp hq
    (Src.ofSlice _ Tryz.underlying30 ⟨X.heap.size, 0, none⟩ 1 1 _ rfl (fun j u hj => by rw [Addr_add, Nat.zero_add, (Blk.new X 27 _).cell j]; simpa [cellS, SlV.val] using hj) (fun u hu => by simp at hu; exact cellS_one _ u hu)) (hown.alloc _) (by simp; omega) (by simp; omega) (fun v' w' h1 h2 h3 => h v' w' h1 (((Fr.refl _ _).alloc _).step h2) (by simpa using h3))

theorem cachesAt_cod {w : World} {s : SlV (SlV E)} (h : codecEntriess.good w s) : CachesAt w s where
  row hn := by
    obtain ⟨b, off, hA, hb, hc⟩ := h.1 hn
    refine ⟨b, off, hA, hb, fun i hi => ?_⟩
    have := hc i hi 0 (by rw [Tryz.cellsEntries]; decide)
    rw [Tryz.cellsEntries, Nat.mul_one, Nat.add_zero] at this
    rw [this]
    rfl
  each i hi := entriesAt_of (h.2.1 _ (List.getElem_mem hi))
  len := Nat.le_trans h.2.2.1 h.2.2.2

/-- a cache of the call's own -/
def OwnC (base : Nat) (w : World) (x : SlV E) : Prop := Ow E.cells 5 base 59 w x.val x.xs ∧ ∀ y ∈ x.xs, y.good
theorem OwnC.belowS {base : Nat} {w w' : World} {x : SlV E} (h : OwnC base w x) (hb : Below w.heap.size w w') : OwnC base w' x := ⟨h.1.belowS hb, h.2⟩
theorem OwnC.alloc {base : Nat} {w : World} {x : SlV E} (h : OwnC base w x) (o : Obj) : OwnC base (w.alloc o) x := ⟨h.1.alloc o, h.2⟩
theorem OwnC.es {base : Nat} {w : World} {x : SlV E} (h : OwnC base w x) : EsAt w x := by
  obtain ⟨r, h1, h2, h3, _, _⟩ := EsAt.of_ow h.1 h.2
  obtain ⟨A, c, xs⟩ := x
  obtain ⟨A', c', xs'⟩ := r
  simp only at h2
  subst h2
  unfold SlV.val at h1
  injection h1 with e1 _ e2
  simp only at e1 e2
  subst e1 e2
  exact h3
/-- what a call hands out as a slice of its own -/
theorem OwnC.of_ow {base : Nat} {w : World} {v : Value} {l : List E} (h : Ow E.cells 5 base 59 w v l) (hg : ∀ y ∈ l, y.good) : ∃ x : SlV E, v = .slice x.A x.xs.length x.c ∧ x.xs = l ∧ OwnC base w x := by
  obtain ⟨A, c, rfl, _⟩ := h.form
  exact ⟨⟨A, c, l⟩, rfl, rfl, h, hg⟩
theorem tyCE : (27 : TypeId) ≠ 59 := by decide
theorem OwnC.keep {base base2 : Nat} {w w' : World} {x : SlV E} {v : Value} {l : List (SlV E)} (hx : OwnC base w x) (h : Ow cellS 1 base2 27 w v l) (hf : Fr (fun k => some k = foot v) w w') : OwnC base w' x := ⟨h.keep hx.1 tyCE hf, hx.2⟩
/-- a row of caches, all of the call's own -/
def RowC (base : Nat) (w : World) (v : Value) (l : List (List E)) : Prop := ∃ q : List (SlV E), Ow cellS 1 base 27 w v q ∧ q.map SlV.xs = l ∧ ∀ x ∈ q, OwnC base w x
theorem RowC.nil (base : Nat) (w : World) : RowC base w (.slice none 0 0) [] := ⟨[], Ow.nil _ _ _ _ _, rfl, fun x hx => by cases hx⟩
theorem RowC.belowS {base : Nat} {w w' : World} {v : Value} {l : List (List E)} (h : RowC base w v l) (hb : Below w.heap.size w w') : RowC base w' v l := by
  obtain ⟨q, h1, h2, h3⟩ := h
  exact ⟨q, h1.belowS hb, h2, fun x hx => (h3 x hx).belowS hb⟩
theorem RowC.step {base : Nat} {w w' : World} {v v' : Value} {l : List (List E)} {q : List (SlV E)} {x : SlV E} (h : Ow cellS 1 base 27 w v q) (hq : q.map SlV.xs = l) (h3 : ∀ x ∈ q, OwnC base w x) (hx : OwnC base w x) (h' : Ow cellS 1 base 27 w' v' (q ++ [x])) (hf : Fr (fun k => some k = foot v) w w') : RowC base w' v' (l ++ [x.xs]) := by
  refine ⟨q ++ [x], h', by rw [List.map_append, hq]; rfl, fun y hy => ?_⟩
  rcases List.mem_append.1 hy with hy | hy
  · exact (h3 y hy).keep h hf
  · rw [List.mem_singleton.1 hy]; exact hx.keep h hf
theorem SsAt.caches {w : World} {s : SlV (SlV E)} (h : SsAt w s) (he : ∀ x ∈ s.xs, EntriesAt w x) : CachesAt w s := ⟨fun h0 => by
    obtain ⟨b, off, h1, h2, h3⟩ := h.row h0
    exact ⟨b, off, h1, h2, fun i hi => by rw [h3 i hi, getD_get _ hi]; rfl⟩, fun i hi => he _ (List.getElem_mem hi), h.len⟩
theorem RowC.caches {base : Nat} {w : World} {v : Value} {l : List (List E)} (h : RowC base w v l) : ∃ r : SlV (SlV E), v = .slice r.A r.xs.length r.c ∧ r.xs.map SlV.xs = l ∧ CachesAt w r ∧ ∀ x ∈ r.xs, EsAt w x := by
  obtain ⟨q, h1, h2, h3⟩ := h
  obtain ⟨r, hv, hx, hr, _, _⟩ := SsAt.of_ow h1
  refine ⟨r, hv, by rw [hx]; exact h2, hr.caches (fun x hx' => ?_), fun x hx' => ?_⟩
  · rw [hx] at hx'; exact (h3 x hx').es.entries
  · rw [hx] at hx'; exact (h3 x hx').es
end Go.Proofs.YtemhdfodghfkfaaGreatDoor
