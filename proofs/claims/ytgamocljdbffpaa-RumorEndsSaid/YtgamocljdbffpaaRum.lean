/-
  THE KIT of api.Rumor: codec, rows, whether two are alike. CONDITIONS: none.
-/
import Derived.Test.YtgamocljdbffpaaMem
namespace Go.Proofs.Ytgamocljdbffpaa
open Go.RowKit
open Go.ChangeShapes Go.WideShapes Go.ChangeAt

structure U where
  node : Int
  life : Int
  state : Int
  told : Int
def U.cells (e : U) : List Value := [.int .i64 e.node, .int .i64 e.life, .int .i64 e.state, .int .i64 e.told]
def U.val (e : U) : Value := .agg #[.int .i64 e.node, .int .i64 e.life, .int .i64 e.state, .int .i64 e.told]
def U.zero : U := ⟨0, 0, 0, 0⟩
def U.good (e : U) : Prop := (-9223372036854775808 ≤ e.node ∧ e.node ≤ 9223372036854775807) ∧ (-9223372036854775808 ≤ e.life ∧ e.life ≤ 9223372036854775807) ∧ (-9223372036854775808 ≤ e.state ∧ e.state ≤ 9223372036854775807) ∧ (-9223372036854775808 ≤ e.told ∧ e.told ≤ 9223372036854775807)
theorem U.cells_length (e : U) : e.cells.length = 4 := rfl
theorem U.zero_good : U.zero.good := by unfold U.good U.zero; decide
theorem U.one (e : U) : ∀ u ∈ e.cells, u.oneCell' = true := by intro u hu; simp [U.cells] at hu; rcases hu with rfl | rfl | rfl | rfl <;> rfl
/-- the cells of one, at a place -/
structure UAt (w : World) (b o : Nat) (e : U) : Prop where
  c0 : w.cell? ⟨b, o, none⟩ = some (.int .i64 e.node)
  c1 : w.cell? ⟨b, o + 1, none⟩ = some (.int .i64 e.life)
  c2 : w.cell? ⟨b, o + 2, none⟩ = some (.int .i64 e.state)
  c3 : w.cell? ⟨b, o + 3, none⟩ = some (.int .i64 e.told)
theorem UAt.stays {w w' : World} {b o : Nat} {e : U} (h : UAt w b o e) (hb : Below w.heap.size w w') (hl : b < w.heap.size) : UAt w' b o e :=
  ⟨(hb.cell (p := ⟨b, _, none⟩) hl).trans h.c0, (hb.cell (p := ⟨b, _, none⟩) hl).trans h.c1, (hb.cell (p := ⟨b, _, none⟩) hl).trans h.c2, (hb.cell (p := ⟨b, _, none⟩) hl).trans h.c3⟩
theorem UAt.fr {S : Nat → Prop} {w w' : World} {b o : Nat} {e : U} (h : UAt w b o e) (hb : Fr S w w') (hl : b < w.heap.size) (hn : ¬ S b) : UAt w' b o e :=
  ⟨(hb.cell (p := ⟨b, _, none⟩) hl hn).trans h.c0, (hb.cell (p := ⟨b, _, none⟩) hl hn).trans h.c1, (hb.cell (p := ⟨b, _, none⟩) hl hn).trans h.c2, (hb.cell (p := ⟨b, _, none⟩) hl hn).trans h.c3⟩
theorem UAt.of_blk {w : World} {g : Nat} {t : TypeId} {e : U} (h : Blk w g t #[.int .i64 e.node, .int .i64 e.life, .int .i64 e.state, .int .i64 e.told]) : UAt w g 0 e :=
  ⟨h.cell 0, h.cell 1, h.cell 2, h.cell 3⟩
/-- a row of them, as it came in or as a call handed it back -/
structure UsAt (w : World) (s : SlV U) : Prop where
  row : 0 < s.xs.length → ∃ b off, s.A = some ⟨b, off, none⟩ ∧ b < w.heap.size ∧ ∀ i, i < s.xs.length → UAt w b (off + i * 4) (s.xs.getD i U.zero)
  each : ∀ x ∈ s.xs, x.good
  len : s.xs.length ≤ maxLen
theorem UsAt.stays {w w' : World} {s : SlV U} (h : UsAt w s) (hb : Below w.heap.size w w') : UsAt w' s := ⟨fun h0 => by
    obtain ⟨b, off, h1, h2, h3⟩ := h.row h0
    exact ⟨b, off, h1, Nat.lt_of_lt_of_le h2 hb.size, fun i hi => (h3 i hi).stays hb h2⟩, h.each, h.len⟩
theorem UsAt.fr {S : Nat → Prop} {w w' : World} {s : SlV U} (h : UsAt w s) (hb : Fr S w w') (hn : 0 < s.xs.length → ∀ b off, s.A = some ⟨b, off, none⟩ → ¬ S b) : UsAt w' s := ⟨fun h0 => by
    obtain ⟨b, off, h1, h2, h3⟩ := h.row h0
    exact ⟨b, off, h1, Nat.lt_of_lt_of_le h2 hb.size, fun i hi => (h3 i hi).fr hb h2 (hn h0 _ _ h1)⟩, h.each, h.len⟩
theorem UAt.drewN {w : World} {b o : Nat} {e : U} (h : UAt w b o e) (n : Nat) : UAt (w.drewN n) b o e := ⟨h.c0, h.c1, h.c2, h.c3⟩
theorem UsAt.drewN {w : World} {s : SlV U} (h : UsAt w s) (n : Nat) : UsAt (w.drewN n) s := ⟨fun h0 => by
    obtain ⟨b, off, h1, h2, h3⟩ := h.row h0
    exact ⟨b, off, h1, h2, fun i hi => (h3 i hi).drewN n⟩, h.each, h.len⟩
theorem UsAt.empty (w : World) (A : Option Addr) (c : Nat) : UsAt w ⟨A, c, []⟩ := ⟨(fun h => by cases h), (fun x hx => by cases hx), Nat.zero_le _⟩
/-- a slice of the call's own, as a caller reads it -/
theorem UsAt.of_ow {w : World} {base : Nat} {T : TypeId} {v : Value} {l : List U} (h : Ow U.cells 4 base T w v l) (hg : ∀ x ∈ l, x.good) :
    ∃ r : SlV U, v = .slice r.A r.xs.length r.c ∧ r.xs = l ∧ UsAt w r ∧ r.ok ∧ (0 < r.xs.length → ∀ b off, r.A = some ⟨b, off, none⟩ → foot v = some b ∧ base ≤ b) := by
  by_cases h0 : 0 < l.length
  · obtain ⟨g, off, cap, rfl, h1, h2, hb, hlt, hfo, hc, _⟩ := h.get h0
    refine ⟨⟨some ⟨g, off, none⟩, cap, l⟩, rfl, rfl, ⟨fun _ => ⟨g, off, rfl, hlt, fun i hi => ?_⟩, hg, by show l.length ≤ maxLen; omega⟩, ⟨h1, h2⟩, fun _ b off hA => by cases hA; exact ⟨hfo, hb⟩⟩
    have hi' : i < l.length := hi
    have hx : l.getD i U.zero = l[i] := getD_get _ hi'
    simp only []
    rw [hx]
    exact ⟨hc i hi' 0 (by decide), hc i hi' 1 (by decide), hc i hi' 2 (by decide), hc i hi' 3 (by decide)⟩
  · have hl0 : l = [] := by cases l with | nil => rfl | cons a r => simp at h0
    subst hl0
    obtain ⟨A, cap, rfl, h1, h2, _⟩ := h
    exact ⟨⟨A, cap, []⟩, rfl, rfl, UsAt.empty _ _ _, ⟨h1, h2⟩, fun h => by simp at h⟩
theorem UsAt.src {P : Program} {TS T : TypeId} (hk : P.underlying TS = some (.slice T)) {w : World} {s : SlV U} (h : UsAt w s) : Src P 4 TS (.slice s.A s.xs.length s.c) s.xs.length (s.xs.flatMap U.cells) w := by
  obtain ⟨A, c, xs⟩ := s
  by_cases h0 : 0 < xs.length
  · obtain ⟨b, off, hA, hlt, hc⟩ := h.row h0
    simp only at hA hc ⊢
    subst hA
    refine Src.ofSlice w hk ⟨b, off, none⟩ xs.length c _ (flat_length _ _ U.cells_length _) (fun j u hj => ?_) (fun u hu => ?_)
    · have hjl : j < xs.length * 4 := by rw [← flat_length _ _ U.cells_length xs]; exact (List.getElem?_eq_some_iff.1 hj).1
      have hq : j / 4 < xs.length := by omega
      have hm : j % 4 < 4 := Nat.mod_lt _ (by decide)
      have hg := flat_get _ _ U.cells_length xs _ _ hq hm
      rw [show j / 4 * 4 + j % 4 = j by omega, hj, ← getD_get U.zero hq] at hg
      have hx := hc _ hq
      rw [Addr_add, show off + j = off + j / 4 * 4 + j % 4 by omega]
      generalize xs.getD (j / 4) U.zero = y at hg hx
      generalize j % 4 = f at hg hm ⊢
      rw [hg]
      match f, hm with
      | 0, _ => exact hx.c0
      | 1, _ => exact hx.c1
      | 2, _ => exact hx.c2
      | 3, _ => exact hx.c3
    · obtain ⟨x, _, hx⟩ := List.mem_flatMap.1 hu
      exact x.one u hx
  · have hl0 : xs = [] := by cases xs with | nil => rfl | cons a r => simp at h0
    subst hl0
    cases A with
    | none => exact Src.ofNil w hk c
    | some a => exact Src.ofSlice w hk a 0 c [] rfl (fun j u hj => by simp at hj) (fun u hu => by simp at hu)
theorem infoU : (Try.prog.info? 39).map (fun i => (i.zero, i.size, i.bytes)) = some (some U.zero.val, 4, 32) := by kernel_rfl
theorem appU {ops : Array Oper} {rest : List Oper} {o : Oper} {a : Act} {Q : Exit → Act → World → Prop} (X : World) (base : Nat) (v : Value) (l : List U) (x0 : Int) (x1 : Int) (x2 : Int) (x3 : Int) (hown : Ow U.cells 4 base 39 X v l)
    (hgd : o.guard = none) (p q : Operand) (ho : o.op = .call { callee := .builtin .append, args := #[p, q], argTypes := #[24, 24] }) (hp : a.eval p = v) {N : Nat} (hq : a.eval q = .slice (some ⟨N, 0, none⟩) 1 1) (hN : X.heap.size = N) (hl : l.length ≤ 100000000) (hb : base ≤ X.heap.size)
    (h : ∀ v' w', Ow U.cells 4 base 39 w' v' (l ++ [⟨x0, x1, x2, x3⟩]) → Fr (fun k => some k = foot v) X w' → (foot v' = foot v ∨ foot v' = some (X.heap.size + 1)) → wpList Try.prog ops Q rest (a.put o.dst v') w') :
    wpList Try.prog ops Q (o :: rest) a (X.alloc (.cells #[.int .i64 x0, .int .i64 x1, .int .i64 x2, .int .i64 x3] 39)) := by
  subst hN
  exact app_src U.cells 4 32 U.cells_length (by decide) (by decide) _ _ 24 U.zero.val rfl Try.underlying24 infoU hgd p q ho _ base v _ l [⟨x0, x1, x2, x3⟩] hp hq
    (Src.ofSlice _ Try.underlying24 ⟨X.heap.size, 0, none⟩ 1 1 _ rfl (fun j u hj => by rw [Addr_add, Nat.zero_add, (Blk.new X 39 _).cell j]; simpa [U.cells] using hj) (fun u hu => by simp at hu; exact U.one _ u hu)) (hown.alloc _) (by simp; omega) (by simp; omega) (fun v' w' h1 h2 h3 => h v' w' h1 (((Fr.refl _ _).alloc _).step h2) (by simpa using h3))
theorem appUat {ops : Array Oper} {o : Oper} {a : Act} {K : Act → World → Prop} {Q : Exit → Act → World → Prop} {EE : Prop} (X : World) (base : Nat) (v : Value) (l : List U) (x0 : Int) (x1 : Int) (x2 : Int) (x3 : Int) (g' : Nat) (hbox : UAt X g' 0 ⟨x0, x1, x2, x3⟩) (hown : Ow U.cells 4 base 39 X v l)
    (hgd : o.guard = none) (p q : Operand) (ho : o.op = .call { callee := .builtin .append, args := #[p, q], argTypes := #[24, 24] }) (hp : a.eval p = v) (hq : a.eval q = .slice (some ⟨g', 0, none⟩) 1 1) (hl : l.length ≤ 100000000) (hb : base ≤ X.heap.size)
    (h : ∀ v' w', Ow U.cells 4 base 39 w' v' (l ++ [⟨x0, x1, x2, x3⟩]) → Fr (fun k => some k = foot v) X w' → (foot v' = foot v ∨ foot v' = some X.heap.size) → K (a.put o.dst v') w') :
    if Region.wanted o (yielded ops a.tmps) = true then Oper.wp Try.prog o a X K Q else EE :=
  app_step U.cells 4 32 U.cells_length (by decide) (by decide) _ _ 24 U.zero.val rfl Try.underlying24 infoU hgd p q ho _ base v _ l [⟨x0, x1, x2, x3⟩] hp hq
    (Src.ofSlice _ Try.underlying24 ⟨g', 0, none⟩ 1 1 _ rfl (fun j u hj => by
      rw [Addr_add]
      have hj' : (([⟨x0, x1, x2, x3⟩] : List U).flatMap U.cells)[j]? = some u := hj
      match j, hj' with
      | 0, hj' => simp [U.cells] at hj'; subst hj'; first | exact hbox.c0 | (rw [Nat.zero_add]; exact hbox.c0)
      | 1, hj' => simp [U.cells] at hj'; subst hj'; first | exact hbox.c1 | (rw [Nat.zero_add]; exact hbox.c1)
      | 2, hj' => simp [U.cells] at hj'; subst hj'; first | exact hbox.c2 | (rw [Nat.zero_add]; exact hbox.c2)
      | 3, hj' => simp [U.cells] at hj'; subst hj'; first | exact hbox.c3 | (rw [Nat.zero_add]; exact hbox.c3)
      | j + 4, hj' => simp [U.cells] at hj') (fun u hu => by simp at hu; exact U.one _ u hu)) hown (by simp; omega) hb h
theorem appUs {ops : Array Oper} {rest : List Oper} {o : Oper} {a : Act} {Q : Exit → Act → World → Prop} (X : World) (base : Nat) (v : Value) (l : List U) (r : SlV U) (hr : UsAt X r) (hown : Ow U.cells 4 base 39 X v l)
    (hgd : o.guard = none) (p q : Operand) (ho : o.op = .call { callee := .builtin .append, args := #[p, q], argTypes := #[24, 24] }) (hp : a.eval p = v) (hq : a.eval q = .slice r.A r.xs.length r.c) (hl : l.length + r.xs.length ≤ 1000000000) (hb : base ≤ X.heap.size)
    (h : ∀ v' w', Ow U.cells 4 base 39 w' v' (l ++ r.xs) → Fr (fun k => some k = foot v) X w' → (foot v' = foot v ∨ foot v' = some X.heap.size) → wpList Try.prog ops Q rest (a.put o.dst v') w') :
    wpList Try.prog ops Q (o :: rest) a X :=
  app_src U.cells 4 32 U.cells_length (by decide) (by decide) _ _ 24 U.zero.val rfl Try.underlying24 infoU hgd p q ho _ base v _ l r.xs hp hq (hr.src Try.underlying24) hown hl hb h
theorem appUss {ops : Array Oper} {o : Oper} {a : Act} {K : Act → World → Prop} {Q : Exit → Act → World → Prop} {EE : Prop} (X : World) (base : Nat) (v : Value) (l : List U) (r : SlV U) (hr : UsAt X r) (hown : Ow U.cells 4 base 39 X v l)
    (hgd : o.guard = none) (p q : Operand) (ho : o.op = .call { callee := .builtin .append, args := #[p, q], argTypes := #[24, 24] }) (hp : a.eval p = v) (hq : a.eval q = .slice r.A r.xs.length r.c) (hl : l.length + r.xs.length ≤ 1000000000) (hb : base ≤ X.heap.size)
    (h : ∀ v' w', Ow U.cells 4 base 39 w' v' (l ++ r.xs) → Fr (fun k => some k = foot v) X w' → (foot v' = foot v ∨ foot v' = some X.heap.size) → K (a.put o.dst v') w') :
    if Region.wanted o (yielded ops a.tmps) = true then Oper.wp Try.prog o a X K Q else EE :=
  app_step U.cells 4 32 U.cells_length (by decide) (by decide) _ _ 24 U.zero.val rfl Try.underlying24 infoU hgd p q ho _ base v _ l r.xs hp hq (hr.src Try.underlying24) hown hl hb h
theorem Try.cellsU : Try.prog.cellsOf 39 = 4 := by kernel_rfl
theorem list4 {α : Type} {l : List α} (h : l.length = 4) : ∃ a b c d, l = [a, b, c, d] := by
  match l, h with
  | [a, b, c, d], _ => exact ⟨a, b, c, d, rfl⟩
def codecU : Codec Try.prog 39 U where
  cells e := e.cells
  good _ e := e.good
  opens {H enc w base held fuel cs x} h := by
    obtain ⟨xs, n, _, _, hlen, hyl, hf⟩ := DataW.trod_struct Try.underlying39 h
    rw [Try.cellsU] at hlen
    have h0 : DataW.trod enc Try.prog w base (fun _ => true) held n 23 ((cs.drop 0).take (Try.prog.cellsOf 23)) = xs[0]? := hf 0 _ rfl
    have h1 : DataW.trod enc Try.prog w base (fun _ => true) held n 3 ((cs.drop 3).take (Try.prog.cellsOf 3)) = xs[1]? := hf 1 _ rfl
    have hxl : xs.length = 2 := hyl
    rw [Try.cellsInt, List.getElem?_eq_getElem (by omega)] at h1
    rw [Try.cellsM, List.getElem?_eq_getElem (by omega)] at h0
    obtain ⟨c0, c1, c2, c3, rfl⟩ := list4 hlen
    obtain ⟨a1, b1, g1⟩ := (Codec.int Try.underlying3).opens (show DataW.trod enc Try.prog w base (fun _ => true) held n 3 [c3] = _ from h1)
    obtain ⟨e, be, ge⟩ := codecM.opens (show DataW.trod enc Try.prog w base (fun _ => true) held n 23 [c0, c1, c2] = _ from h0)
    refine ⟨⟨e.node, e.life, e.state, a1⟩, ?_, ge.1, ge.2.1, ge.2.2, g1⟩
    simp only [Codec.int, List.cons.injEq, and_true] at b1
    have be' : [c0, c1, c2] = e.cells := be
    subst b1
    simp only [M.cells, List.cons.injEq, and_true] at be'
    obtain ⟨rfl, rfl, rfl⟩ := be'
    rfl
  stays h _ := h
def codecUs : Codec Try.prog 24 (SlV U) := Codec.slice Try.underlying24 codecU (pos_of_eq Try.cellsU (by decide))
theorem UsAt_of {w : World} {s : SlV U} (h : codecUs.good w s) : UsAt w s where
  row hn := by
    obtain ⟨b, off, hA, hb, hc⟩ := h.1 hn
    refine ⟨b, off, hA, hb, fun i hi => ?_⟩
    have hcc := fun f (hf : f < 4) => hc i hi f (by rw [Try.cellsU]; exact hf)
    rw [Try.cellsU] at hcc
    rw [getD_get _ hi]
    exact ⟨hcc 0 (by decide), hcc 1 (by decide), hcc 2 (by decide), hcc 3 (by decide)⟩
  each := h.2.1
  len := Nat.le_trans h.2.2.1 h.2.2.2
def eqbU (y x : U) : Bool := decide (y.node = x.node ∧ y.life = x.life ∧ y.state = x.state ∧ y.told = x.told)
theorem eqbU_refl (x : U) : eqbU x x = true := by simp [eqbU]
set_option maxHeartbeats 2000000 in
theorem eqRunU (y0 : Int) (y1 : Int) (y2 : Int) (y3 : Int) (x0 : Int) (x1 : Int) (x2 : Int) (x3 : Int) (w : World) : (Op.equalIn 10000 39 (.agg #[.int .i64 y0, .int .i64 y1, .int .i64 y2, .int .i64 y3]) (.agg #[.int .i64 x0, .int .i64 x1, .int .i64 x2, .int .i64 x3])).run Try.prog w = .ok (eqbU ⟨y0, y1, y2, y3⟩ ⟨x0, x1, x2, x3⟩) w := by
  have hS : Try.prog.underlying 39 = some (.struct (Try.prog.fieldsOf 39)) := by kernel_rfl
  have hp : Try.prog.stoodInHeld 39 = false := by kernel_rfl
  rw [show (10000 : Nat) = 9999 + 1 from rfl, run_equalIn_agg w 9999 39 _ _ hS hp]
  simp only [Program.fieldsOf, Try.underlying39]
  go_simp
  unfold eqbU
  simp only []
  repeat' split
  all_goals simp_all
def eqsU (l m : List U) : Bool := decide (l.length = m.length) && (List.range l.length).all fun i => eqbU (l.getD i U.zero) (m.getD i U.zero)
theorem eqsU_len {l m : List U} (h : l.length ≠ m.length) : eqsU l m = false := by simp [eqsU, h]
theorem eqsU_at {l m : List U} {i : Nat} (hi : i < l.length) (h : eqbU (l.getD i U.zero) (m.getD i U.zero) = false) : eqsU l m = false := by
  rw [← Bool.not_eq_true]
  intro ha
  unfold eqsU at ha
  rw [Bool.and_eq_true, List.all_eq_true] at ha
  have := ha.2 i (List.mem_range.2 hi)
  simp only [h] at this
  cases this
theorem eqsU_all {l m : List U} (hl : l.length = m.length) (h : ∀ i, i < l.length → eqbU (l.getD i U.zero) (m.getD i U.zero) = true) : eqsU l m = true := by
  unfold eqsU
  rw [Bool.and_eq_true, List.all_eq_true]
  exact ⟨by simp [hl], fun i hi => h i (List.mem_range.1 hi)⟩
theorem eqsU_refl (l : List U) : eqsU l l = true := eqsU_all rfl (fun _ _ => eqbU_refl _)
set_option maxHeartbeats 2000000 in
theorem rumors_any (s r : SlV U) (w : World) (hs : UsAt w s) (hr : UsAt w r) :
    Calls Try.prog 7 #[.slice s.A s.xs.length s.c, .slice r.A r.xs.length r.c] w fun e w' => e = .returned (.bool (eqsU s.xs r.xs)) ∧ Below w.heap.size w w' := by
  obtain ⟨A, c, xs⟩ := s
  obtain ⟨A', c', xs'⟩ := r
  have hlen := hs.len
  have hlen' := hr.len
  unfold maxLen at hlen hlen'
  simp only at hlen hlen' ⊢
  by_cases hl : xs.length = xs'.length
  · have hll : xs'.length ≤ xs.length ∧ xs.length ≤ xs'.length := ⟨by omega, by omega⟩
    obtain ⟨hl1, hl2⟩ := hll
    have hle : ((xs.length : Int) == (xs'.length : Int)) = true := by rw [hl]; simp
    have hle2 : ((xs.length : Int) != (xs'.length : Int)) = false := by rw [hl]; simp
    have Hl := hid hl
    generalize hR : eqsU xs xs' = R
    have HR := hid hR
    clear hl hR
    go_enter Try.func7, Try.ntmps7
    go_wp2_with fail
    go_loopw [5] (fun i wr => ∃ k : Nat, k ≤ xs.length ∧ i = .int .i64 k ∧ (∀ j, j < k → eqbU (xs.getD j U.zero) (xs'.getD j U.zero) = true) ∧ Below w.heap.size w wr) (fun i _ => xs.length - (intOf i).toNat)
    case atStart => exact ⟨0, Nat.zero_le _, rfl, fun j hj => by omega, Below.refl _ _⟩
    case round =>
      obtain ⟨k, hk, rfl, hall, hbr⟩ := hrel
      have Hall := hid hall
      clear hall
      by_cases hlt : k < xs.length
      · obtain ⟨g, off, hA, hgl, hc⟩ := hs.row (by simp only; omega)
        obtain ⟨g', off', hA', hgl', hc'⟩ := hr.row (by simp only; omega)
        simp only at hA hA' hc hc'
        subst hA hA'
        obtain ⟨k0, k1, k2, k3⟩ := (hc k hlt).stays hbr hgl
        obtain ⟨j0, j1, j2, j3⟩ := (hc' k (by omega)).stays hbr hgl'
        have hk0 : (0 : Int) ≤ (k : Int) := by omega
        have hk1 : (k : Int) < (xs.length : Int) := by omega
        have hk2 : (k : Int) < (xs'.length : Int) := by omega
        generalize hy : xs.getD k U.zero = y at *
        generalize hz : xs'.getD k U.zero = z at *
        have Hy := hid hy
        have Hz := hid hz
        obtain ⟨y0, y1, y2, y3⟩ := y
        obtain ⟨z0, z1, z2, z3⟩ := z
        simp only at k0 k1 k2 k3 j0 j1 j2 j3
        clear hc hc' hy hz
        have heq := fun W => eqRunU y0 y1 y2 y3 z0 z1 z2 z3 W
        have Hbr := hid hbr
        rcases hq : eqbU ⟨y0, y1, y2, y3⟩ ⟨z0, z1, z2, z3⟩ with _ | _
        · have hRf : R = false := by rw [← HR.out]; exact eqsU_at hlt (by rw [Hy.out, Hz.out]; exact hq)
          have HRf := hid hRf
          clear hRf
          rw [hq] at heq
          clear hq
          go_wp2_with fail
          go_quiet (fail)
          go_wp2_with fail
          go_ret
          exact ⟨by rw [HRf.out]; rfl, Below.manyDrew Hbr.out _⟩
        · rw [hq] at heq
          have Hq := hid hq
          clear hq
          go_wp2_with fail
          go_quiet (fail)
          go_wp2_with fail
          go_roundw
          case rel =>
            refine ⟨k + 1, by omega, by go_num, fun j hj => ?_, Below.manyDrew Hbr.out _⟩
            by_cases hjk : j < k
            · exact Hall.out j hjk
            · obtain rfl : j = k := by omega
              rw [Hy.out, Hz.out]; exact Hq.out
          case measure => simp [intOf]; omega
      · obtain rfl : k = xs.length := by omega
        have hRt : R = true := by rw [← HR.out]; exact eqsU_all Hl.out Hall.out
        have HRt := hid hRt
        clear hRt
        go_wp2_with fail
        go_ret
        exact ⟨by rw [HRt.out]; rfl, hbr⟩
  · rw [eqsU_len hl]
    have hle : ((xs.length : Int) == (xs'.length : Int)) = false := by rw [beq_eq_false_iff_ne]; omega
    have hle2 : ((xs.length : Int) != (xs'.length : Int)) = true := by rw [bne_iff_ne]; omega
    clear hl
    go_enter Try.func7, Try.ntmps7
    go_wp2_with fail
    go_ret
    exact ⟨rfl, Below.refl _ _⟩
end Go.Proofs.Ytgamocljdbffpaa
