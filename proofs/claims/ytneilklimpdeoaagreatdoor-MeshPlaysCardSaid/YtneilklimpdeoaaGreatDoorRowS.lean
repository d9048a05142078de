/-
  THE KIT of rows of slices: a row whose elements are slices (what these hold is asked apart): read, handed on, appended to. CONDITIONS: none.
-/
import Derived.Test.YtneilklimpdeoaaGreatDoorEntry
import Derived.Test.YtneilklimpdeoaaGreatDoorKit
import Derived.Test.YtneilklimpdeoaaGreatDoorKitJ
import Derived.Lib.AppendZerosOnto
namespace Go.Proofs.YtneilklimpdeoaaGreatDoor
open Go.RowKit
open Go.ChangeShapes Go.WideShapes Go.ChangeAt

def SlV.val {α : Type} (s : SlV α) : Value := .slice s.A s.xs.length s.c
def SlV.nil {α : Type} : SlV α := ⟨none, 0, []⟩
def cellS {α : Type} (s : SlV α) : List Value := [s.val]
theorem cellS_length {α : Type} (s : SlV α) : (cellS s).length = 1 := rfl
theorem cellS_one {α : Type} (s : SlV α) : ∀ u ∈ cellS s, u.oneCell' = true := by intro u hu; simp [cellS] at hu; subst hu; rfl
/-- a row of slices -/
structure SsAt {α : Type} (w : World) (s : SlV (SlV α)) : Prop where
  row : 0 < s.xs.length → ∃ b off, s.A = some ⟨b, off, none⟩ ∧ b < w.heap.size ∧ ∀ i, i < s.xs.length → w.cell? ⟨b, off + i, none⟩ = some (s.xs.getD i SlV.nil).val
  len : s.xs.length ≤ maxLen
section
variable {α : Type}
theorem SsAt.stays {w w' : World} {s : SlV (SlV α)} (h : SsAt w s) (hb : Below w.heap.size w w') : SsAt w' s := ⟨fun h0 => by
    obtain ⟨b, off, h1, h2, h3⟩ := h.row h0
    exact ⟨b, off, h1, Nat.lt_of_lt_of_le h2 hb.size, fun i hi => (hb.cell (p := ⟨b, _, none⟩) h2).trans (h3 i hi)⟩, h.len⟩
theorem SsAt.fr {S : Nat → Prop} {w w' : World} {s : SlV (SlV α)} (h : SsAt w s) (hb : Fr S w w') (hn : 0 < s.xs.length → ∀ b off, s.A = some ⟨b, off, none⟩ → ¬ S b) : SsAt w' s := ⟨fun h0 => by
    obtain ⟨b, off, h1, h2, h3⟩ := h.row h0
    exact ⟨b, off, h1, Nat.lt_of_lt_of_le h2 hb.size, fun i hi => (hb.cell (p := ⟨b, _, none⟩) h2 (hn h0 _ _ h1)).trans (h3 i hi)⟩, h.len⟩
theorem SsAt.drewN {w : World} {s : SlV (SlV α)} (h : SsAt w s) (n : Nat) : SsAt (w.drewN n) s := ⟨h.row, h.len⟩
theorem SsAt.bare (w : World) (A : Option Addr) (c : Nat) : SsAt w (⟨A, c, []⟩ : SlV (SlV α)) := ⟨(fun h => by cases h), Nat.zero_le _⟩
/-- a row just laid -/
theorem SsAt.of_blk {w : World} {g : Nat} {T : TypeId} {l : List (SlV α)} (h : Blk w g T (l.map SlV.val).toArray) (c : Nat) (hl : l.length ≤ maxLen) : SsAt w ⟨some ⟨g, 0, none⟩, c, l⟩ := by
  refine ⟨fun _ => ⟨g, 0, rfl, h.lt, fun i hi => ?_⟩, hl⟩
  have hi' : i < l.length := hi
  rw [Nat.zero_add, h.cell i]
  simp only
  rw [getD_get _ hi']
  simp [hi']
theorem SsAt.of_ow {w : World} {base : Nat} {T : TypeId} {v : Value} {l : List (SlV α)} (h : Ow cellS 1 base T w v l) :
    ∃ r : SlV (SlV α), v = .slice r.A r.xs.length r.c ∧ r.xs = l ∧ SsAt w r ∧ r.ok ∧ (0 < r.xs.length → ∀ b off, r.A = some ⟨b, off, none⟩ → foot v = some b ∧ base ≤ b) := by
  by_cases h0 : 0 < l.length
  · obtain ⟨g, off, cap, rfl, h1, h2, hb, hlt, hfo, hc, _⟩ := h.get h0
    refine ⟨⟨some ⟨g, off, none⟩, cap, l⟩, rfl, rfl, ⟨fun _ => ⟨g, off, rfl, hlt, fun i hi => ?_⟩, by show l.length ≤ maxLen; omega⟩, ⟨h1, h2⟩, fun _ b off hA => by cases hA; exact ⟨hfo, hb⟩⟩
    have hi' : i < l.length := hi
    have := hc i hi' 0 (by decide)
    rw [Nat.mul_one, Nat.add_zero] at this
    rw [this]
    show _ = some ((l.getD i SlV.nil).val)
    rw [getD_get _ hi']
    rfl
  · have hl0 : l = [] := by cases l with | nil => rfl | cons a r => simp at h0
    subst hl0
    obtain ⟨A, cap, rfl, h1, h2, _⟩ := h
    exact ⟨⟨A, cap, []⟩, rfl, rfl, SsAt.bare _ _ _, ⟨h1, h2⟩, fun h => by simp at h⟩
theorem SsAt.src {P : Program} {TS T : TypeId} (hk : P.underlying TS = some (.slice T)) {w : World} {s : SlV (SlV α)} (h : SsAt w s) : Src P 1 TS (.slice s.A s.xs.length s.c) s.xs.length (s.xs.flatMap cellS) w := by
  obtain ⟨A, c, xs⟩ := s
  by_cases h0 : 0 < xs.length
  · obtain ⟨b, off, hA, hlt, hc⟩ := h.row h0
    simp only at hA hc ⊢
    subst hA
    refine Src.ofSlice w hk ⟨b, off, none⟩ xs.length c _ (flat_length _ _ cellS_length _) (fun j u hj => ?_) (fun u hu => ?_)
    · have hq : j < xs.length := by
        have := (List.getElem?_eq_some_iff.1 hj).1
        rw [flat_length _ _ cellS_length xs] at this
        omega
      have hg := flat_get _ _ cellS_length xs j 0 hq (by decide)
      rw [Nat.mul_one, Nat.add_zero, hj] at hg
      rw [Addr_add, hc _ hq, hg, getD_get _ hq]
      rfl
    · obtain ⟨x, _, hx⟩ := List.mem_flatMap.1 hu
      exact cellS_one x u hx
  · have hl0 : xs = [] := by cases xs with | nil => rfl | cons a r => simp at h0
    subst hl0
    cases A with
    | none => exact Src.ofNil w hk c
    | some a => exact Src.ofSlice w hk a 0 c [] rfl (fun j u hj => by simp at hj) (fun u hu => by simp at hu)
end
theorem IntssAt.ss {w : World} {s : SlV (SlV Int)} (h : IntssAt w s) : SsAt w s := ⟨fun h0 => by
    obtain ⟨b, off, h1, h2, h3⟩ := h.row h0
    exact ⟨b, off, h1, h2, fun i hi => by rw [h3 i hi, getD_get _ hi]; rfl⟩, h.len⟩
theorem SsAt.ints {w : World} {s : SlV (SlV Int)} (h : SsAt w s) (he : ∀ x ∈ s.xs, IntsAt w x) : IntssAt w s := ⟨fun h0 => by
    obtain ⟨b, off, h1, h2, h3⟩ := h.row h0
    exact ⟨b, off, h1, h2, fun i hi => by rw [h3 i hi, getD_get _ hi]; rfl⟩, fun i hi => he _ (List.getElem_mem hi), h.len⟩
theorem IntsAt.of_blk {w : World} {g : Nat} {T : TypeId} {l : List Int} (h : Blk w g T (ints l)) (c : Nat) (hl : l.length ≤ maxLen) : IntsAt w ⟨some ⟨g, 0, none⟩, c, l⟩ := by
  refine ⟨fun _ => ⟨g, 0, rfl, h.lt, fun i hi => ?_⟩, hl⟩
  have hi' : i < l.length := hi
  rw [Nat.zero_add, h.cell i, ints_get l i hi']

/- slices of []int -/
theorem infoS : (Tryz.prog.info? 39).map (fun i => (i.zero, i.size, i.bytes)) = some (some (.slice none 0 0), 1, 24) := by kernel_rfl
theorem appS {ops : Array Oper} {rest : List Oper} {o : Oper} {a : Act} {Q : Exit → Act → World → Prop} (X : World) (base : Nat) (v : Value) (l : List (SlV Int)) (x0 : SlV Int) (hown : Ow cellS 1 base 39 X v l)
    (hgd : o.guard = none) (p q : Operand) (ho : o.op = .call { callee := .builtin .append, args := #[p, q], argTypes := #[22, 22] }) (hp : a.eval p = v) {N : Nat} (hq : a.eval q = .slice (some ⟨N, 0, none⟩) 1 1) (hN : X.heap.size = N) (hl : l.length ≤ 100000000) (hb : base ≤ X.heap.size)
    (h : ∀ v' w', Ow cellS 1 base 39 w' v' (l ++ [x0]) → Fr (fun k => some k = foot v) X w' → (foot v' = foot v ∨ foot v' = some (X.heap.size + 1)) → wpList Tryz.prog ops Q rest (a.put o.dst v') w') :
    wpList Tryz.prog ops Q (o :: rest) a (X.alloc (.cells #[.slice x0.A x0.xs.length x0.c] 39)) := by
  subst hN
  exact app_src cellS 1 24 cellS_length (by decide) (by decide) _ _ 22 (.slice none 0 0) rfl Tryz.underlying22 infoS hgd p q ho _ base v _ l [x0] hp hq
    (Src.ofSlice _ Tryz.underlying22 ⟨X.heap.size, 0, none⟩ 1 1 _ rfl (fun j u hj => by rw [Addr_add, Nat.zero_add, (Blk.new X 39 _).cell j]; simpa [cellS, SlV.val] using hj) (fun u hu => by simp at hu; exact cellS_one _ u hu)) (hown.alloc _) (by simp; omega) (by simp; omega) (fun v' w' h1 h2 h3 => h v' w' h1 (((Fr.refl _ _).alloc _).step h2) (by simpa using h3))
theorem appSs {ops : Array Oper} {rest : List Oper} {o : Oper} {a : Act} {Q : Exit → Act → World → Prop} (X : World) (base : Nat) (v : Value) (l : List (SlV Int)) (r : SlV (SlV Int)) (hr : SsAt X r) (hown : Ow cellS 1 base 39 X v l)
    (hgd : o.guard = none) (p q : Operand) (ho : o.op = .call { callee := .builtin .append, args := #[p, q], argTypes := #[22, 22] }) (hp : a.eval p = v) (hq : a.eval q = .slice r.A r.xs.length r.c) (hl : l.length + r.xs.length ≤ 1000000000) (hb : base ≤ X.heap.size)
    (h : ∀ v' w', Ow cellS 1 base 39 w' v' (l ++ r.xs) → Fr (fun k => some k = foot v) X w' → (foot v' = foot v ∨ foot v' = some X.heap.size) → wpList Tryz.prog ops Q rest (a.put o.dst v') w') :
    wpList Tryz.prog ops Q (o :: rest) a X :=
  app_src cellS 1 24 cellS_length (by decide) (by decide) _ _ 22 (.slice none 0 0) rfl Tryz.underlying22 infoS hgd p q ho _ base v _ l r.xs hp hq (hr.src Tryz.underlying22) hown hl hb h

end Go.Proofs.YtneilklimpdeoaaGreatDoor
