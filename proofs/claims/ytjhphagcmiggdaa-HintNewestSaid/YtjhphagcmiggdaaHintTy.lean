/-
  THE KIT of api.Hint: codec, rows. CONDITIONS: none.
-/
import Derived.Test.YtjhphagcmiggdaaCodecs
import Derived.Test.YtjhphagcmiggdaaKit
namespace Go.Proofs.Ytjhphagcmiggdaa
open Go.RowKit
open Go.ChangeShapes Go.WideShapes Go.ChangeAt

structure H where
  node : Int
  key : Int
  ver : Int
def H.cells (e : H) : List Value := [.int .i64 e.node, .int .i64 e.key, .int .i64 e.ver]
def H.val (e : H) : Value := .agg #[.int .i64 e.node, .int .i64 e.key, .int .i64 e.ver]
def H.zero : H := ⟨0, 0, 0⟩
def H.good (e : H) : Prop := (-9223372036854775808 ≤ e.node ∧ e.node ≤ 9223372036854775807) ∧ (-9223372036854775808 ≤ e.key ∧ e.key ≤ 9223372036854775807) ∧ (-9223372036854775808 ≤ e.ver ∧ e.ver ≤ 9223372036854775807)
theorem H.cells_length (e : H) : e.cells.length = 3 := rfl
theorem H.zero_good : H.zero.good := by unfold H.good H.zero; decide
theorem H.one (e : H) : ∀ u ∈ e.cells, u.oneCell' = true := by intro u hu; simp [H.cells] at hu; rcases hu with rfl | rfl | rfl <;> rfl
/-- the cells of one, at a place -/
structure HAt (w : World) (b o : Nat) (e : H) : Prop where
  c0 : w.cell? ⟨b, o, none⟩ = some (.int .i64 e.node)
  c1 : w.cell? ⟨b, o + 1, none⟩ = some (.int .i64 e.key)
  c2 : w.cell? ⟨b, o + 2, none⟩ = some (.int .i64 e.ver)
theorem HAt.stays {w w' : World} {b o : Nat} {e : H} (h : HAt w b o e) (hb : Below w.heap.size w w') (hl : b < w.heap.size) : HAt w' b o e :=
  ⟨(hb.cell (p := ⟨b, _, none⟩) hl).trans h.c0, (hb.cell (p := ⟨b, _, none⟩) hl).trans h.c1, (hb.cell (p := ⟨b, _, none⟩) hl).trans h.c2⟩
theorem HAt.fr {S : Nat → Prop} {w w' : World} {b o : Nat} {e : H} (h : HAt w b o e) (hb : Fr S w w') (hl : b < w.heap.size) (hn : ¬ S b) : HAt w' b o e :=
  ⟨(hb.cell (p := ⟨b, _, none⟩) hl hn).trans h.c0, (hb.cell (p := ⟨b, _, none⟩) hl hn).trans h.c1, (hb.cell (p := ⟨b, _, none⟩) hl hn).trans h.c2⟩
theorem HAt.of_blk {w : World} {g : Nat} {t : TypeId} {e : H} (h : Blk w g t #[.int .i64 e.node, .int .i64 e.key, .int .i64 e.ver]) : HAt w g 0 e :=
  ⟨h.cell 0, h.cell 1, h.cell 2⟩
/-- a row of them, as it came in or as a call handed it back -/
structure HsAt (w : World) (s : SlV H) : Prop where
  row : 0 < s.xs.length → ∃ b off, s.A = some ⟨b, off, none⟩ ∧ b < w.heap.size ∧ ∀ i, i < s.xs.length → HAt w b (off + i * 3) (s.xs.getD i H.zero)
  each : ∀ x ∈ s.xs, x.good
  len : s.xs.length ≤ maxLen
theorem HsAt.stays {w w' : World} {s : SlV H} (h : HsAt w s) (hb : Below w.heap.size w w') : HsAt w' s := ⟨fun h0 => by
    obtain ⟨b, off, h1, h2, h3⟩ := h.row h0
    exact ⟨b, off, h1, Nat.lt_of_lt_of_le h2 hb.size, fun i hi => (h3 i hi).stays hb h2⟩, h.each, h.len⟩
theorem HsAt.fr {S : Nat → Prop} {w w' : World} {s : SlV H} (h : HsAt w s) (hb : Fr S w w') (hn : 0 < s.xs.length → ∀ b off, s.A = some ⟨b, off, none⟩ → ¬ S b) : HsAt w' s := ⟨fun h0 => by
    obtain ⟨b, off, h1, h2, h3⟩ := h.row h0
    exact ⟨b, off, h1, Nat.lt_of_lt_of_le h2 hb.size, fun i hi => (h3 i hi).fr hb h2 (hn h0 _ _ h1)⟩, h.each, h.len⟩
theorem HAt.drewN {w : World} {b o : Nat} {e : H} (h : HAt w b o e) (n : Nat) : HAt (w.drewN n) b o e := ⟨h.c0, h.c1, h.c2⟩
theorem HsAt.drewN {w : World} {s : SlV H} (h : HsAt w s) (n : Nat) : HsAt (w.drewN n) s := ⟨fun h0 => by
    obtain ⟨b, off, h1, h2, h3⟩ := h.row h0
    exact ⟨b, off, h1, h2, fun i hi => (h3 i hi).drewN n⟩, h.each, h.len⟩
theorem HsAt.empty (w : World) (A : Option Addr) (c : Nat) : HsAt w ⟨A, c, []⟩ := ⟨(fun h => by cases h), (fun x hx => by cases hx), Nat.zero_le _⟩
/-- a slice of the call's own, as a caller reads it -/
theorem HsAt.of_ow {w : World} {base : Nat} {T : TypeId} {v : Value} {l : List H} (h : Ow H.cells 3 base T w v l) (hg : ∀ x ∈ l, x.good) :
    ∃ r : SlV H, v = .slice r.A r.xs.length r.c ∧ r.xs = l ∧ HsAt w r ∧ r.ok ∧ (0 < r.xs.length → ∀ b off, r.A = some ⟨b, off, none⟩ → foot v = some b ∧ base ≤ b) := by
  by_cases h0 : 0 < l.length
  · obtain ⟨g, off, cap, rfl, h1, h2, hb, hlt, hfo, hc, _⟩ := h.get h0
    refine ⟨⟨some ⟨g, off, none⟩, cap, l⟩, rfl, rfl, ⟨fun _ => ⟨g, off, rfl, hlt, fun i hi => ?_⟩, hg, by show l.length ≤ maxLen; omega⟩, ⟨h1, h2⟩, fun _ b off hA => by cases hA; exact ⟨hfo, hb⟩⟩
    have hi' : i < l.length := hi
    have hx : l.getD i H.zero = l[i] := getD_get _ hi'
    simp only []
    rw [hx]
    exact ⟨hc i hi' 0 (by decide), hc i hi' 1 (by decide), hc i hi' 2 (by decide)⟩
  · have hl0 : l = [] := by cases l with | nil => rfl | cons a r => simp at h0
    subst hl0
    obtain ⟨A, cap, rfl, h1, h2, _⟩ := h
    exact ⟨⟨A, cap, []⟩, rfl, rfl, HsAt.empty _ _ _, ⟨h1, h2⟩, fun h => by simp at h⟩
theorem HsAt.src {P : Program} {TS T : TypeId} (hk : P.underlying TS = some (.slice T)) {w : World} {s : SlV H} (h : HsAt w s) : Src P 3 TS (.slice s.A s.xs.length s.c) s.xs.length (s.xs.flatMap H.cells) w := by
  obtain ⟨A, c, xs⟩ := s
  by_cases h0 : 0 < xs.length
  · obtain ⟨b, off, hA, hlt, hc⟩ := h.row h0
    simp only at hA hc ⊢
    subst hA
    refine Src.ofSlice w hk ⟨b, off, none⟩ xs.length c _ (flat_length _ _ H.cells_length _) (fun j u hj => ?_) (fun u hu => ?_)
    · have hjl : j < xs.length * 3 := by rw [← flat_length _ _ H.cells_length xs]; exact (List.getElem?_eq_some_iff.1 hj).1
      have hq : j / 3 < xs.length := by omega
      have hm : j % 3 < 3 := Nat.mod_lt _ (by decide)
      have hg := flat_get _ _ H.cells_length xs _ _ hq hm
      rw [show j / 3 * 3 + j % 3 = j by omega, hj, ← getD_get H.zero hq] at hg
      have hx := hc _ hq
      rw [Addr_add, show off + j = off + j / 3 * 3 + j % 3 by omega]
      generalize xs.getD (j / 3) H.zero = y at hg hx
      generalize j % 3 = f at hg hm ⊢
      rw [hg]
      match f, hm with
      | 0, _ => exact hx.c0
      | 1, _ => exact hx.c1
      | 2, _ => exact hx.c2
    · obtain ⟨x, _, hx⟩ := List.mem_flatMap.1 hu
      exact x.one u hx
  · have hl0 : xs = [] := by cases xs with | nil => rfl | cons a r => simp at h0
    subst hl0
    cases A with
    | none => exact Src.ofNil w hk c
    | some a => exact Src.ofSlice w hk a 0 c [] rfl (fun j u hj => by simp at hj) (fun u hu => by simp at hu)
theorem infoH : (Try.prog.info? 29).map (fun i => (i.zero, i.size, i.bytes)) = some (some H.zero.val, 3, 24) := by kernel_rfl
theorem appH {ops : Array Oper} {rest : List Oper} {o : Oper} {a : Act} {Q : Exit → Act → World → Prop} (X : World) (base : Nat) (v : Value) (l : List H) (x0 : Int) (x1 : Int) (x2 : Int) (hown : Ow H.cells 3 base 29 X v l)
    (hgd : o.guard = none) (p q : Operand) (ho : o.op = .call { callee := .builtin .append, args := #[p, q], argTypes := #[22, 22] }) (hp : a.eval p = v) {N : Nat} (hq : a.eval q = .slice (some ⟨N, 0, none⟩) 1 1) (hN : X.heap.size = N) (hl : l.length ≤ 100000000) (hb : base ≤ X.heap.size)
    (h : ∀ v' w', Ow H.cells 3 base 29 w' v' (l ++ [⟨x0, x1, x2⟩]) → Fr (fun k => some k = foot v) X w' → (foot v' = foot v ∨ foot v' = some (X.heap.size + 1)) → wpList Try.prog ops Q rest (a.put o.dst v') w') :
    wpList Try.prog ops Q (o :: rest) a (X.alloc (.cells #[.int .i64 x0, .int .i64 x1, .int .i64 x2] 29)) := by
  subst hN
  exact app_src H.cells 3 24 H.cells_length (by decide) (by decide) _ _ 22 H.zero.val rfl Try.underlying22 infoH hgd p q ho _ base v _ l [⟨x0, x1, x2⟩] hp hq
    (Src.ofSlice _ Try.underlying22 ⟨X.heap.size, 0, none⟩ 1 1 _ rfl (fun j u hj => by rw [Addr_add, Nat.zero_add, (Blk.new X 29 _).cell j]; simpa [H.cells] using hj) (fun u hu => by simp at hu; exact H.one _ u hu)) (hown.alloc _) (by simp; omega) (by simp; omega) (fun v' w' h1 h2 h3 => h v' w' h1 (((Fr.refl _ _).alloc _).step h2) (by simpa using h3))
theorem appHat {ops : Array Oper} {o : Oper} {a : Act} {K : Act → World → Prop} {Q : Exit → Act → World → Prop} {EE : Prop} (X : World) (base : Nat) (v : Value) (l : List H) (x0 : Int) (x1 : Int) (x2 : Int) (g' : Nat) (hbox : HAt X g' 0 ⟨x0, x1, x2⟩) (hown : Ow H.cells 3 base 29 X v l)
    (hgd : o.guard = none) (p q : Operand) (ho : o.op = .call { callee := .builtin .append, args := #[p, q], argTypes := #[22, 22] }) (hp : a.eval p = v) (hq : a.eval q = .slice (some ⟨g', 0, none⟩) 1 1) (hl : l.length ≤ 100000000) (hb : base ≤ X.heap.size)
    (h : ∀ v' w', Ow H.cells 3 base 29 w' v' (l ++ [⟨x0, x1, x2⟩]) → Fr (fun k => some k = foot v) X w' → (foot v' = foot v ∨ foot v' = some X.heap.size) → K (a.put o.dst v') w') :
    if Region.wanted o (yielded ops a.tmps) = true then Oper.wp Try.prog o a X K Q else EE :=
  app_step H.cells 3 24 H.cells_length (by decide) (by decide) _ _ 22 H.zero.val rfl Try.underlying22 infoH hgd p q ho _ base v _ l [⟨x0, x1, x2⟩] hp hq
    (Src.ofSlice _ Try.underlying22 ⟨g', 0, none⟩ 1 1 _ rfl (fun j u hj => by
      rw [Addr_add]
      have hj' : (([⟨x0, x1, x2⟩] : List H).flatMap H.cells)[j]? = some u := hj
      match j, hj' with
      | 0, hj' => simp [H.cells] at hj'; subst hj'; first | exact hbox.c0 | (rw [Nat.zero_add]; exact hbox.c0)
      | 1, hj' => simp [H.cells] at hj'; subst hj'; first | exact hbox.c1 | (rw [Nat.zero_add]; exact hbox.c1)
      | 2, hj' => simp [H.cells] at hj'; subst hj'; first | exact hbox.c2 | (rw [Nat.zero_add]; exact hbox.c2)
      | j + 3, hj' => simp [H.cells] at hj') (fun u hu => by simp at hu; exact H.one _ u hu)) hown (by simp; omega) hb h
theorem appHs {ops : Array Oper} {rest : List Oper} {o : Oper} {a : Act} {Q : Exit → Act → World → Prop} (X : World) (base : Nat) (v : Value) (l : List H) (r : SlV H) (hr : HsAt X r) (hown : Ow H.cells 3 base 29 X v l)
    (hgd : o.guard = none) (p q : Operand) (ho : o.op = .call { callee := .builtin .append, args := #[p, q], argTypes := #[22, 22] }) (hp : a.eval p = v) (hq : a.eval q = .slice r.A r.xs.length r.c) (hl : l.length + r.xs.length ≤ 1000000000) (hb : base ≤ X.heap.size)
    (h : ∀ v' w', Ow H.cells 3 base 29 w' v' (l ++ r.xs) → Fr (fun k => some k = foot v) X w' → (foot v' = foot v ∨ foot v' = some X.heap.size) → wpList Try.prog ops Q rest (a.put o.dst v') w') :
    wpList Try.prog ops Q (o :: rest) a X :=
  app_src H.cells 3 24 H.cells_length (by decide) (by decide) _ _ 22 H.zero.val rfl Try.underlying22 infoH hgd p q ho _ base v _ l r.xs hp hq (hr.src Try.underlying22) hown hl hb h
theorem Try.cellsH : Try.prog.cellsOf 29 = 3 := by kernel_rfl
def codecH : Codec Try.prog 29 H where
  cells e := e.cells
  good _ e := e.good
  opens h := by
    obtain ⟨hlen, n, hf⟩ := trod_fields Try.underlying29 (by kernel_rfl) (by kernel_rfl) h
    obtain ⟨c0, y0, e0, h0⟩ := hf 0 _ rfl
    obtain ⟨c1, y1, e1, h1⟩ := hf 1 _ rfl
    obtain ⟨c2, y2, e2, h2⟩ := hf 2 _ rfl
    obtain ⟨a0, b0, g0⟩ := (Codec.int Try.underlying3).opens h0
    obtain ⟨a1, b1, g1⟩ := (Codec.int Try.underlying3).opens h1
    obtain ⟨a2, b2, g2⟩ := (Codec.int Try.underlying3).opens h2
    simp only [Codec.int, List.cons.injEq, and_true] at b0 b1 b2
    subst b0 b1 b2
    refine ⟨⟨a0, a1, a2⟩, ?_, g0, g1, g2⟩
    apply List.ext_getElem?
    intro i
    match i with
    | 0 => exact e0
    | 1 => exact e1
    | 2 => exact e2
    | i + 3 => rw [List.getElem?_eq_none (by rw [hlen]; exact Nat.le_add_left 3 i), List.getElem?_eq_none (by simp [H.cells])]
  stays h _ := h
def codecHs : Codec Try.prog 22 (SlV H) := Codec.slice Try.underlying22 codecH (pos_of_eq Try.cellsH (by decide))
theorem HsAt_of {w : World} {s : SlV H} (h : codecHs.good w s) : HsAt w s where
  row hn := by
    obtain ⟨b, off, hA, hb, hc⟩ := h.1 hn
    refine ⟨b, off, hA, hb, fun i hi => ?_⟩
    have hcc := fun f (hf : f < 3) => hc i hi f (by rw [Try.cellsH]; exact hf)
    rw [Try.cellsH] at hcc
    rw [getD_get _ hi]
    exact ⟨hcc 0 (by decide), hcc 1 (by decide), hcc 2 (by decide)⟩
  each := h.2.1
  len := Nat.le_trans h.2.2.1 h.2.2.2
end Go.Proofs.Ytjhphagcmiggdaa
