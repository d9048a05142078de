/-
  THE KIT of api.Letter, and what a mail is. CONDITIONS: none.
-/
import Derived.Test.YtlcbdhblaamekaaEntry
import Derived.Test.YtlcbdhblaamekaaKit
import Derived.Test.YtlcbdhblaamekaaJoin
import Derived.Maps.OwnSet
import Derived.WideKeyPair
namespace Go.Proofs.Ytlcbdhblaamekaa
open Go.RowKit
open Go.ChangeShapes Go.WideShapes Go.ChangeAt

structure Lt where
  frm : Int
  dst : Int
  key : Int
  ver : Int
  asof : Int
  gone : Bool
  text : ByteArray
def Lt.cells (e : Lt) : List Value := [.int .i64 e.frm, .int .i64 e.dst, .int .i64 e.key, .int .i64 e.ver, .int .i64 e.asof, .bool e.gone, .string e.text]
def Lt.val (e : Lt) : Value := .agg #[.int .i64 e.frm, .int .i64 e.dst, .int .i64 e.key, .int .i64 e.ver, .int .i64 e.asof, .bool e.gone, .string e.text]
def Lt.zero : Lt := ⟨0, 0, 0, 0, 0, false, ⟨#[]⟩⟩
def Lt.good (e : Lt) : Prop := (-9223372036854775808 ≤ e.frm ∧ e.frm ≤ 9223372036854775807) ∧ (-9223372036854775808 ≤ e.dst ∧ e.dst ≤ 9223372036854775807) ∧ (-9223372036854775808 ≤ e.key ∧ e.key ≤ 9223372036854775807) ∧ (-9223372036854775808 ≤ e.ver ∧ e.ver ≤ 9223372036854775807) ∧ (-9223372036854775808 ≤ e.asof ∧ e.asof ≤ 9223372036854775807) ∧ True ∧ e.text.size ≤ maxLen
theorem Lt.cells_length (e : Lt) : e.cells.length = 7 := rfl
theorem Lt.zero_good : Lt.zero.good := by unfold Lt.good Lt.zero; decide
theorem Lt.one (e : Lt) : ∀ u ∈ e.cells, u.oneCell' = true := by intro u hu; simp [Lt.cells] at hu; rcases hu with rfl | rfl | rfl | rfl | rfl | rfl | rfl <;> rfl
/-- the cells of one, at a place -/
structure LtAt (w : World) (b o : Nat) (e : Lt) : Prop where
  c0 : w.cell? ⟨b, o, none⟩ = some (.int .i64 e.frm)
  c1 : w.cell? ⟨b, o + 1, none⟩ = some (.int .i64 e.dst)
  c2 : w.cell? ⟨b, o + 2, none⟩ = some (.int .i64 e.key)
  c3 : w.cell? ⟨b, o + 3, none⟩ = some (.int .i64 e.ver)
  c4 : w.cell? ⟨b, o + 4, none⟩ = some (.int .i64 e.asof)
  c5 : w.cell? ⟨b, o + 5, none⟩ = some (.bool e.gone)
  c6 : w.cell? ⟨b, o + 6, none⟩ = some (.string e.text)
theorem LtAt.stays {w w' : World} {b o : Nat} {e : Lt} (h : LtAt w b o e) (hb : Below w.heap.size w w') (hl : b < w.heap.size) : LtAt w' b o e :=
  ⟨(hb.cell (p := ⟨b, _, none⟩) hl).trans h.c0, (hb.cell (p := ⟨b, _, none⟩) hl).trans h.c1, (hb.cell (p := ⟨b, _, none⟩) hl).trans h.c2, (hb.cell (p := ⟨b, _, none⟩) hl).trans h.c3, (hb.cell (p := ⟨b, _, none⟩) hl).trans h.c4, (hb.cell (p := ⟨b, _, none⟩) hl).trans h.c5, (hb.cell (p := ⟨b, _, none⟩) hl).trans h.c6⟩
theorem LtAt.fr {S : Nat → Prop} {w w' : World} {b o : Nat} {e : Lt} (h : LtAt w b o e) (hb : Fr S w w') (hl : b < w.heap.size) (hn : ¬ S b) : LtAt w' b o e :=
  ⟨(hb.cell (p := ⟨b, _, none⟩) hl hn).trans h.c0, (hb.cell (p := ⟨b, _, none⟩) hl hn).trans h.c1, (hb.cell (p := ⟨b, _, none⟩) hl hn).trans h.c2, (hb.cell (p := ⟨b, _, none⟩) hl hn).trans h.c3, (hb.cell (p := ⟨b, _, none⟩) hl hn).trans h.c4, (hb.cell (p := ⟨b, _, none⟩) hl hn).trans h.c5, (hb.cell (p := ⟨b, _, none⟩) hl hn).trans h.c6⟩
theorem LtAt.of_blk {w : World} {g : Nat} {t : TypeId} {e : Lt} (h : Blk w g t #[.int .i64 e.frm, .int .i64 e.dst, .int .i64 e.key, .int .i64 e.ver, .int .i64 e.asof, .bool e.gone, .string e.text]) : LtAt w g 0 e :=
  ⟨h.cell 0, h.cell 1, h.cell 2, h.cell 3, h.cell 4, h.cell 5, h.cell 6⟩
/-- a row of them, as it came in or as a call handed it back -/
structure LtsAt (w : World) (s : SlV Lt) : Prop where
  row : 0 < s.xs.length → ∃ b off, s.A = some ⟨b, off, none⟩ ∧ b < w.heap.size ∧ ∀ i, i < s.xs.length → LtAt w b (off + i * 7) (s.xs.getD i Lt.zero)
  each : ∀ x ∈ s.xs, x.good
  len : s.xs.length ≤ maxLen
theorem LtsAt.stays {w w' : World} {s : SlV Lt} (h : LtsAt w s) (hb : Below w.heap.size w w') : LtsAt w' s := ⟨fun h0 => by
    obtain ⟨b, off, h1, h2, h3⟩ := h.row h0
    exact ⟨b, off, h1, Nat.lt_of_lt_of_le h2 hb.size, fun i hi => (h3 i hi).stays hb h2⟩, h.each, h.len⟩
theorem LtsAt.fr {S : Nat → Prop} {w w' : World} {s : SlV Lt} (h : LtsAt w s) (hb : Fr S w w') (hn : 0 < s.xs.length → ∀ b off, s.A = some ⟨b, off, none⟩ → ¬ S b) : LtsAt w' s := ⟨fun h0 => by
    obtain ⟨b, off, h1, h2, h3⟩ := h.row h0
    exact ⟨b, off, h1, Nat.lt_of_lt_of_le h2 hb.size, fun i hi => (h3 i hi).fr hb h2 (hn h0 _ _ h1)⟩, h.each, h.len⟩
theorem LtAt.drewN {w : World} {b o : Nat} {e : Lt} (h : LtAt w b o e) (n : Nat) : LtAt (w.drewN n) b o e := ⟨h.c0, h.c1, h.c2, h.c3, h.c4, h.c5, h.c6⟩
theorem LtsAt.drewN {w : World} {s : SlV Lt} (h : LtsAt w s) (n : Nat) : LtsAt (w.drewN n) s := ⟨fun h0 => by
    obtain ⟨b, off, h1, h2, h3⟩ := h.row h0
    exact ⟨b, off, h1, h2, fun i hi => (h3 i hi).drewN n⟩, h.each, h.len⟩
theorem LtsAt.empty (w : World) (A : Option Addr) (c : Nat) : LtsAt w ⟨A, c, []⟩ := ⟨(fun h => by cases h), (fun x hx => by cases hx), Nat.zero_le _⟩
/-- a slice of the call's own, as a caller reads it -/
theorem LtsAt.of_ow {w : World} {base : Nat} {T : TypeId} {v : Value} {l : List Lt} (h : Ow Lt.cells 7 base T w v l) (hg : ∀ x ∈ l, x.good) :
    ∃ r : SlV Lt, v = .slice r.A r.xs.length r.c ∧ r.xs = l ∧ LtsAt w r ∧ r.ok ∧ (0 < r.xs.length → ∀ b off, r.A = some ⟨b, off, none⟩ → foot v = some b ∧ base ≤ b) := by
  by_cases h0 : 0 < l.length
  · obtain ⟨g, off, cap, rfl, h1, h2, hb, hlt, hfo, hc, _⟩ := h.get h0
    refine ⟨⟨some ⟨g, off, none⟩, cap, l⟩, rfl, rfl, ⟨fun _ => ⟨g, off, rfl, hlt, fun i hi => ?_⟩, hg, by show l.length ≤ maxLen; omega⟩, ⟨h1, h2⟩, fun _ b off hA => by cases hA; exact ⟨hfo, hb⟩⟩
    have hi' : i < l.length := hi
    have hx : l.getD i Lt.zero = l[i] := getD_get _ hi'
    simp only []
    rw [hx]
    exact ⟨hc i hi' 0 (by decide), hc i hi' 1 (by decide), hc i hi' 2 (by decide), hc i hi' 3 (by decide), hc i hi' 4 (by decide), hc i hi' 5 (by decide), hc i hi' 6 (by decide)⟩
  · have hl0 : l = [] := by cases l with | nil => rfl | cons a r => simp at h0
    subst hl0
    obtain ⟨A, cap, rfl, h1, h2, _⟩ := h
    exact ⟨⟨A, cap, []⟩, rfl, rfl, LtsAt.empty _ _ _, ⟨h1, h2⟩, fun h => by simp at h⟩
theorem LtsAt.src {P : Program} {TS T : TypeId} (hk : P.underlying TS = some (.slice T)) {w : World} {s : SlV Lt} (h : LtsAt w s) : Src P 7 TS (.slice s.A s.xs.length s.c) s.xs.length (s.xs.flatMap Lt.cells) w := by
  obtain ⟨A, c, xs⟩ := s
  by_cases h0 : 0 < xs.length
  · obtain ⟨b, off, hA, hlt, hc⟩ := h.row h0
    simp only at hA hc ⊢
    subst hA
    refine Src.ofSlice w hk ⟨b, off, none⟩ xs.length c _ (flat_length _ _ Lt.cells_length _) (fun j u hj => ?_) (fun u hu => ?_)
    · have hjl : j < xs.length * 7 := by rw [← flat_length _ _ Lt.cells_length xs]; exact (List.getElem?_eq_some_iff.1 hj).1
      have hq : j / 7 < xs.length := by omega
      have hm : j % 7 < 7 := Nat.mod_lt _ (by decide)
      have hg := flat_get _ _ Lt.cells_length xs _ _ hq hm
      rw [show j / 7 * 7 + j % 7 = j by omega, hj, ← getD_get Lt.zero hq] at hg
      have hx := hc _ hq
      rw [Addr_add, show off + j = off + j / 7 * 7 + j % 7 by omega]
      generalize xs.getD (j / 7) Lt.zero = y at hg hx
      generalize j % 7 = f at hg hm ⊢
      rw [hg]
      match f, hm with
      | 0, _ => exact hx.c0
      | 1, _ => exact hx.c1
      | 2, _ => exact hx.c2
      | 3, _ => exact hx.c3
      | 4, _ => exact hx.c4
      | 5, _ => exact hx.c5
      | 6, _ => exact hx.c6
    · obtain ⟨x, _, hx⟩ := List.mem_flatMap.1 hu
      exact x.one u hx
  · have hl0 : xs = [] := by cases xs with | nil => rfl | cons a r => simp at h0
    subst hl0
    cases A with
    | none => exact Src.ofNil w hk c
    | some a => exact Src.ofSlice w hk a 0 c [] rfl (fun j u hj => by simp at hj) (fun u hu => by simp at hu)
theorem infoLt : (Try.prog.info? 42).map (fun i => (i.zero, i.size, i.bytes)) = some (some Lt.zero.val, 7, 64) := by kernel_rfl
theorem appLt {ops : Array Oper} {rest : List Oper} {o : Oper} {a : Act} {Q : Exit → Act → World → Prop} (X : World) (base : Nat) (v : Value) (l : List Lt) (x0 : Int) (x1 : Int) (x2 : Int) (x3 : Int) (x4 : Int) (x5 : Bool) (x6 : ByteArray) (hown : Ow Lt.cells 7 base 42 X v l)
    (hgd : o.guard = none) (p q : Operand) (ho : o.op = .call { callee := .builtin .append, args := #[p, q], argTypes := #[60, 60] }) (hp : a.eval p = v) {N : Nat} (hq : a.eval q = .slice (some ⟨N, 0, none⟩) 1 1) (hN : X.heap.size = N) (hl : l.length ≤ 100000000) (hb : base ≤ X.heap.size)
    (h : ∀ v' w', Ow Lt.cells 7 base 42 w' v' (l ++ [⟨x0, x1, x2, x3, x4, x5, x6⟩]) → Fr (fun k => some k = foot v) X w' → (foot v' = foot v ∨ foot v' = some (X.heap.size + 1)) → wpList Try.prog ops Q rest (a.put o.dst v') w') :
    wpList Try.prog ops Q (o :: rest) a (X.alloc (.cells #[.int .i64 x0, .int .i64 x1, .int .i64 x2, .int .i64 x3, .int .i64 x4, .bool x5, .string x6] 42)) := by
  subst hN
  exact app_src Lt.cells 7 64 Lt.cells_length (by decide) (by decide) _ _ 60 Lt.zero.val rfl Try.underlying60 infoLt hgd p q ho _ base v _ l [⟨x0, x1, x2, x3, x4, x5, x6⟩] hp hq
    (Src.ofSlice _ Try.underlying60 ⟨X.heap.size, 0, none⟩ 1 1 _ rfl (fun j u hj => by rw [Addr_add, Nat.zero_add, (Blk.new X 42 _).cell j]; simpa [Lt.cells] using hj) (fun u hu => by simp at hu; exact Lt.one _ u hu)) (hown.alloc _) (by simp; omega) (by simp; omega) (fun v' w' h1 h2 h3 => h v' w' h1 (((Fr.refl _ _).alloc _).step h2) (by simpa using h3))
theorem appLtat {ops : Array Oper} {o : Oper} {a : Act} {K : Act → World → Prop} {Q : Exit → Act → World → Prop} {EE : Prop} (X : World) (base : Nat) (v : Value) (l : List Lt) (x0 : Int) (x1 : Int) (x2 : Int) (x3 : Int) (x4 : Int) (x5 : Bool) (x6 : ByteArray) (g' : Nat) (hbox : LtAt X g' 0 ⟨x0, x1, x2, x3, x4, x5, x6⟩) (hown : Ow Lt.cells 7 base 42 X v l)
    (hgd : o.guard = none) (p q : Operand) (ho : o.op = .call { callee := .builtin .append, args := #[p, q], argTypes := #[60, 60] }) (hp : a.eval p = v) (hq : a.eval q = .slice (some ⟨g', 0, none⟩) 1 1) (hl : l.length ≤ 100000000) (hb : base ≤ X.heap.size)
    (h : ∀ v' w', Ow Lt.cells 7 base 42 w' v' (l ++ [⟨x0, x1, x2, x3, x4, x5, x6⟩]) → Fr (fun k => some k = foot v) X w' → (foot v' = foot v ∨ foot v' = some X.heap.size) → K (a.put o.dst v') w') :
    if Region.wanted o (yielded ops a.tmps) = true then Oper.wp Try.prog o a X K Q else EE :=
  app_step Lt.cells 7 64 Lt.cells_length (by decide) (by decide) _ _ 60 Lt.zero.val rfl Try.underlying60 infoLt hgd p q ho _ base v _ l [⟨x0, x1, x2, x3, x4, x5, x6⟩] hp hq
    (Src.ofSlice _ Try.underlying60 ⟨g', 0, none⟩ 1 1 _ rfl (fun j u hj => by
      rw [Addr_add]
      have hj' : (([⟨x0, x1, x2, x3, x4, x5, x6⟩] : List Lt).flatMap Lt.cells)[j]? = some u := hj
      match j, hj' with
      | 0, hj' => simp [Lt.cells] at hj'; subst hj'; first | exact hbox.c0 | (rw [Nat.zero_add]; exact hbox.c0)
      | 1, hj' => simp [Lt.cells] at hj'; subst hj'; first | exact hbox.c1 | (rw [Nat.zero_add]; exact hbox.c1)
      | 2, hj' => simp [Lt.cells] at hj'; subst hj'; first | exact hbox.c2 | (rw [Nat.zero_add]; exact hbox.c2)
      | 3, hj' => simp [Lt.cells] at hj'; subst hj'; first | exact hbox.c3 | (rw [Nat.zero_add]; exact hbox.c3)
      | 4, hj' => simp [Lt.cells] at hj'; subst hj'; first | exact hbox.c4 | (rw [Nat.zero_add]; exact hbox.c4)
      | 5, hj' => simp [Lt.cells] at hj'; subst hj'; first | exact hbox.c5 | (rw [Nat.zero_add]; exact hbox.c5)
      | 6, hj' => simp [Lt.cells] at hj'; subst hj'; first | exact hbox.c6 | (rw [Nat.zero_add]; exact hbox.c6)
      | j + 7, hj' => simp [Lt.cells] at hj') (fun u hu => by simp at hu; exact Lt.one _ u hu)) hown (by simp; omega) hb h
theorem appLts {ops : Array Oper} {rest : List Oper} {o : Oper} {a : Act} {Q : Exit → Act → World → Prop} (X : World) (base : Nat) (v : Value) (l : List Lt) (r : SlV Lt) (hr : LtsAt X r) (hown : Ow Lt.cells 7 base 42 X v l)
    (hgd : o.guard = none) (p q : Operand) (ho : o.op = .call { callee := .builtin .append, args := #[p, q], argTypes := #[60, 60] }) (hp : a.eval p = v) (hq : a.eval q = .slice r.A r.xs.length r.c) (hl : l.length + r.xs.length ≤ 1000000000) (hb : base ≤ X.heap.size)
    (h : ∀ v' w', Ow Lt.cells 7 base 42 w' v' (l ++ r.xs) → Fr (fun k => some k = foot v) X w' → (foot v' = foot v ∨ foot v' = some X.heap.size) → wpList Try.prog ops Q rest (a.put o.dst v') w') :
    wpList Try.prog ops Q (o :: rest) a X :=
  app_src Lt.cells 7 64 Lt.cells_length (by decide) (by decide) _ _ 60 Lt.zero.val rfl Try.underlying60 infoLt hgd p q ho _ base v _ l r.xs hp hq (hr.src Try.underlying60) hown hl hb h
theorem appLtss {ops : Array Oper} {o : Oper} {a : Act} {K : Act → World → Prop} {Q : Exit → Act → World → Prop} {EE : Prop} (X : World) (base : Nat) (v : Value) (l : List Lt) (r : SlV Lt) (hr : LtsAt X r) (hown : Ow Lt.cells 7 base 42 X v l)
    (hgd : o.guard = none) (p q : Operand) (ho : o.op = .call { callee := .builtin .append, args := #[p, q], argTypes := #[60, 60] }) (hp : a.eval p = v) (hq : a.eval q = .slice r.A r.xs.length r.c) (hl : l.length + r.xs.length ≤ 1000000000) (hb : base ≤ X.heap.size)
    (h : ∀ v' w', Ow Lt.cells 7 base 42 w' v' (l ++ r.xs) → Fr (fun k => some k = foot v) X w' → (foot v' = foot v ∨ foot v' = some X.heap.size) → K (a.put o.dst v') w') :
    if Region.wanted o (yielded ops a.tmps) = true then Oper.wp Try.prog o a X K Q else EE :=
  app_step Lt.cells 7 64 Lt.cells_length (by decide) (by decide) _ _ 60 Lt.zero.val rfl Try.underlying60 infoLt hgd p q ho _ base v _ l r.xs hp hq (hr.src Try.underlying60) hown hl hb h
theorem Try.cellsLt : Try.prog.cellsOf 42 = 7 := by kernel_rfl
theorem list7 {α : Type} {l : List α} (h : l.length = 7) : ∃ a b c d e f g, l = [a, b, c, d, e, f, g] := by
  match l, h with
  | [a, b, c, d, e, f, g], _ => exact ⟨a, b, c, d, e, f, g, rfl⟩
def codecLt : Codec Try.prog 42 Lt where
  cells e := e.cells
  good _ e := e.good
  opens {H enc w base held fuel cs x} h := by
    obtain ⟨xs, n, _, _, hlen, hyl, hf⟩ := DataW.trod_struct Try.underlying42 h
    rw [Try.cellsLt] at hlen
    have h0 : DataW.trod enc Try.prog w base (fun _ => true) held n 3 ((cs.drop 0).take (Try.prog.cellsOf 3)) = xs[0]? := hf 0 _ rfl
    have h1 : DataW.trod enc Try.prog w base (fun _ => true) held n 3 ((cs.drop 1).take (Try.prog.cellsOf 3)) = xs[1]? := hf 1 _ rfl
    have h2 : DataW.trod enc Try.prog w base (fun _ => true) held n 36 ((cs.drop 2).take (Try.prog.cellsOf 36)) = xs[2]? := hf 2 _ rfl
    have hxl : xs.length = 3 := hyl
    rw [Try.cellsInt, List.getElem?_eq_getElem (by omega)] at h0 h1
    rw [Try.cellsEntry, List.getElem?_eq_getElem (by omega)] at h2
    obtain ⟨c0, c1, c2, c3, c4, c5, c6, rfl⟩ := list7 hlen
    obtain ⟨a0, b0, g0⟩ := (Codec.int Try.underlying3).opens (show DataW.trod enc Try.prog w base (fun _ => true) held n 3 [c0] = _ from h0)
    obtain ⟨a1, b1, g1⟩ := (Codec.int Try.underlying3).opens (show DataW.trod enc Try.prog w base (fun _ => true) held n 3 [c1] = _ from h1)
    obtain ⟨e, be, ge⟩ := codecEntry.opens (show DataW.trod enc Try.prog w base (fun _ => true) held n 36 [c2, c3, c4, c5, c6] = _ from h2)
    refine ⟨⟨a0, a1, e.key, e.ver, e.asof, e.gone, e.text⟩, ?_, g0, g1, ge.1, ge.2.1, ge.2.2.1, trivial, ge.2.2.2⟩
    simp only [Codec.int, List.cons.injEq, and_true] at b0 b1
    have be' : [c2, c3, c4, c5, c6] = e.cells := be
    subst b0 b1
    show _ = _ :: _ :: e.cells
    rw [← be']
  stays h _ := h
def codecLts : Codec Try.prog 60 (SlV Lt) := Codec.slice Try.underlying60 codecLt (pos_of_eq Try.cellsLt (by decide))
theorem LtsAt_of {w : World} {s : SlV Lt} (h : codecLts.good w s) : LtsAt w s where
  row hn := by
    obtain ⟨b, off, hA, hb, hc⟩ := h.1 hn
    refine ⟨b, off, hA, hb, fun i hi => ?_⟩
    have hcc := fun f (hf : f < 7) => hc i hi f (by rw [Try.cellsLt]; exact hf)
    rw [Try.cellsLt] at hcc
    rw [getD_get _ hi]
    exact ⟨hcc 0 (by decide), hcc 1 (by decide), hcc 2 (by decide), hcc 3 (by decide), hcc 4 (by decide), hcc 5 (by decide), hcc 6 (by decide)⟩
  each := h.2.1
  len := Nat.le_trans h.2.2.1 h.2.2.2

/-! ### the ways that are cut: a map keyed by two numbers -/
theorem Try.arrKey : WideMaps.ArrKey Try.prog 71 3 2 := ⟨Try.underlying71, by kernel_rfl, by kernel_rfl, by kernel_rfl⟩
theorem Try.keyed2 : Maps.Keyed Try.prog 71 := Maps.Keyed.of_law Try.arrKey.law
def wfI (n : Int) : Prop := -9223372036854775808 ≤ n ∧ n ≤ 9223372036854775807
def key2 (f t : Int) : Lit := .string (keyBytes [.int .i64 f, .int .i64 t])
theorem wfI_wf {n : Int} (h : wfI n) : (Lit.int .i64 n).wf = true := WalkArith.wf_i64 h
theorem keyOf2 {f t : Int} (hf : wfI f) (ht : wfI t) : keyOf Try.prog 71 (.agg #[.int .i64 f, .int .i64 t]) = some (key2 f t) :=
  WideMaps.keyOf_pair Try.arrKey Try.underlying3 ⟨110 - 1, by kernel_rfl⟩ (wfI_wf hf) (wfI_wf ht)
theorem key2_ne {f t f' t' : Int} (hf : wfI f) (ht : wfI t) (hf' : wfI f') (ht' : wfI t') (h : ¬ (f = f' ∧ t = t')) : key2 f t ≠ key2 f' t' := fun e => h (by
  have := Try.keyed2.inj (keyOf2 hf ht) (by rw [e]; exact keyOf2 hf' ht')
  injection this with this
  injection this with this
  injection this with e1 e2
  injection e2 with e2 _
  injection e1 with _ e1
  injection e2 with _ e2
  exact ⟨e1, e2⟩)
theorem plainElem_bool_inv {P : Program} {e : TypeId} {H : Type} (he : P.underlying e = some .bool) {v : Value} {z : DataW H × List MemPlace} (h : plainElem P e v = some z) : ∃ x, v = .bool x ∧ z = (.lit (.bool x), []) := by
  unfold plainElem at h
  rw [he] at h
  cases v with
  | bool x => exact ⟨x, rfl, (Option.some.inj h).symm⟩
  | _ => simp at h
/-- the ways that are cut -/
def CutO (w : World) (bm nc : Nat) (C : Int → Int → Bool) : Prop :=
  ∃ D : DataW Unit, w.ownsMap Try.prog 71 (plainElem Try.prog 4) bm nc D ∧ ∀ f t, wfI f → wfI t → D.atKey (key2 f t) (.lit (.bool false)) = .lit (.bool (C f t))
theorem CutO.lt {w : World} {bm nc : Nat} {C : Int → Int → Bool} (h : CutO w bm nc C) : bm < w.heap.size := by
  obtain ⟨D, h, _⟩ := h; exact h.lt
theorem CutO.fr {S : Nat → Prop} {w w' : World} {bm nc : Nat} {C : Int → Int → Bool} (h : CutO w bm nc C) (hf : Fr S w w') (hn : ¬ S bm) : CutO w' bm nc C := by
  obtain ⟨D, ⟨es, clock, hb, F, hs, hd⟩, hc⟩ := h
  have hlt : bm < w.heap.size := by
    rcases Nat.lt_or_ge bm w.heap.size with hlt | hge
    · exact hlt
    · rw [Array.getElem?_eq_none hge] at hb; cases hb
  exact ⟨D, ⟨es, clock, (hf.block bm hlt hn).trans hb, F, hs, hd⟩, hc⟩
theorem CutO.belowS {w w' : World} {bm nc : Nat} {C : Int → Int → Bool} (h : CutO w bm nc C) (hb : Below w.heap.size w w') : CutO w' bm nc C := h.fr (S := fun _ => False) (Fr.ofB hb) (fun h => h)
theorem CutO.new (w : World) : CutO (w.alloc (.map #[] 0)) w.heap.size 0 (fun _ _ => false) :=
  ⟨.map [], World.ownsMap_made _ _ _ _, fun _ _ _ _ => rfl⟩
theorem CutO.look {w : World} {bm nc : Nat} {C : Int → Int → Bool} (h : CutO w bm nc C) {f t : Int} (hf : wfI f) (ht : wfI t) (n : Nat) :
    (Instr.lookup 59 (.map (some bm)) (.agg #[.int .i64 f, .int .i64 t]) false).run Try.prog (w.drewN n) = .ok (.bool (C f t)) (w.drewN n) := by
  obtain ⟨D, h, hc⟩ := h
  have h' : (w.drewN n).ownsMap Try.prog 71 (plainElem Try.prog 4) bm nc D := h
  obtain ⟨v, ps, hrun, hv⟩ := h'.lookup Try.keyed2 Try.underlying59 (z := .bool false) (by kernel_rfl) (plainElem_bool Try.underlying4 false) (keyOf2 hf ht)
  obtain ⟨x, rfl, hx⟩ := plainElem_bool_inv Try.underlying4 hv
  rw [hc f t hf ht] at hx
  have e : C f t = x := Lit.bool.inj (DataW.lit.inj (Prod.mk.inj hx).1)
  rw [hrun, e]
/-- one way set -/
def setC (C : Int → Int → Bool) (f t : Int) (c : Bool) : Int → Int → Bool := fun f' t' => if f' = f ∧ t' = t then c else C f' t'
theorem CutO.put {D : DataW Unit} {C : Int → Int → Bool} {w : World} {bm nc : Nat} {f t : Int} {c : Bool} (hf : wfI f) (ht : wfI t) (hD : Maps.IsMap D) (hc : ∀ f t, wfI f → wfI t → D.atKey (key2 f t) (.lit (.bool false)) = .lit (.bool (C f t)))
    (h : w.ownsMap Try.prog 71 (plainElem Try.prog 4) bm nc (D.put (key2 f t) (.lit (.bool c)))) : CutO w bm nc (setC C f t c) := by
  refine ⟨_, h, fun f' t' hf' ht' => ?_⟩
  by_cases he : f' = f ∧ t' = t
  · obtain ⟨rfl, rfl⟩ := he
    rw [Maps.atKey_put_same hD (Try.keyed2.key (keyOf2 hf ht)), setC, if_pos ⟨rfl, rfl⟩]
  · rw [Maps.atKey_put_other (key2_ne hf' ht' hf ht he), setC, if_neg he, hc f' t' hf' ht']

/-- the mail at s -/
structure MailO (base : Nat) (w : World) (s bm : Nat) (v : Value) (L : List Lt) (nc : Nat) (C : Int → Int → Bool) : Prop where
  blk : Blk w s 62 #[v, .map (some bm)]
  own : Ow Lt.cells 7 base 42 w v L
  off : foot v ≠ some s
  cut : CutO w bm nc C
  good : ∀ y ∈ L, y.good
  lens : L.length ≤ 40
  lbs : base ≤ s
  lbb : base ≤ bm
section
variable {base s bm nc : Nat} {w w' : World} {v : Value} {L : List Lt} {C : Int → Int → Bool}
theorem Blk.notMap {g : Nat} {t : TypeId} {cs : Array Value} (h : Blk w g t cs) (hc : CutO w bm nc C) : g ≠ bm := fun e => by
  obtain ⟨D, ⟨es, clock, hb, _⟩, _⟩ := hc
  unfold Blk at h
  rw [e, hb] at h
  cases h
theorem MailO.ne (h : MailO base w s bm v L nc C) : s ≠ bm := h.blk.notMap h.cut
theorem MailO.offm (h : MailO base w s bm v L nc C) : foot v ≠ some bm := fun e => by
  obtain ⟨A, cap, rfl, h1, h2, rfl | ⟨g', off, cur, rfl, hb, hB, h3, h4⟩⟩ := h.own
  · cases A <;> cases e
  · cases cap with
    | zero => cases e
    | succ c => cases e; exact hB.notMap h.cut rfl
/-- the blocks of a mail -/
def FM (s bm : Nat) (v : Value) (i : Nat) : Prop := i = s ∨ i = bm ∨ some i = foot v
theorem MailO.fr {S : Nat → Prop} (h : MailO base w s bm v L nc C) (hf : Fr S w w') (hS : ∀ i, FM s bm v i → ¬ S i) : MailO base w' s bm v L nc C :=
  ⟨h.blk.fr hf (hS _ (.inl rfl)), h.own.fr hf (fun _ hg => hS _ (.inr (.inr hg.symm))), h.off, h.cut.fr hf (hS _ (.inr (.inl rfl))), h.good, h.lens, h.lbs, h.lbb⟩
theorem MailO.belowS (h : MailO base w s bm v L nc C) (hb : Below w.heap.size w w') : MailO base w' s bm v L nc C := h.fr (S := fun _ => False) (Fr.ofB hb) (fun _ _ h => h)
theorem MailO.fml (h : MailO base w s bm v L nc C) {i : Nat} (hi : FM s bm v i) : base ≤ i ∧ i < w.heap.size := by
  rcases hi with rfl | rfl | hi
  · exact ⟨h.lbs, h.blk.lt⟩
  · exact ⟨h.lbb, h.cut.lt⟩
  · exact h.own.lt hi.symm
end
/-- what a deed's call does -/
def MRes (base s bm : Nat) (v : Value) (w : World) (ret : Value) (L' : List Lt) (nc' : Nat) (C' : Int → Int → Bool) (e : Ending) (w' : World) : Prop :=
  ∃ v', e = .returned ret ∧ MailO base w' s bm v' L' nc' C' ∧ Fr (FM s bm v) w w' ∧ (foot v' = foot v ∨ ∃ g, foot v' = some g ∧ w.heap.size ≤ g)
theorem MRes.no {base s bm nc : Nat} {v : Value} {w w' : World} {L : List Lt} {C : Int → Int → Bool} {ret : Value} (hO : MailO base w s bm v L nc C) (hb : Below w.heap.size w w') : MRes base s bm v w ret L nc C (.returned ret) w' :=
  ⟨v, rfl, hO.belowS hb, Fr.ofB hb, .inl rfl⟩
end Go.Proofs.Ytlcbdhblaamekaa
